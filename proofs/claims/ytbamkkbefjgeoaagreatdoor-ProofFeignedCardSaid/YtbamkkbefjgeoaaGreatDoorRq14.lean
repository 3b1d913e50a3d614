/- The product of two elements, as a number. -/
import Derived.Test.YtbamkkbefjgeoaaGreatDoorRq11
import Derived.Test.YtbamkkbefjgeoaaGreatDoorRq08
import Derived.Test.YtbamkkbefjgeoaaGreatDoorRq12
import Derived.Test.YtbamkkbefjgeoaaGreatDoorRq13
namespace Go.Rq
open Go

theorem round_sum {p0 t0 r0 c0 p1 t1 r1 c1 p2 t2 r2 c2 p3 t3 r3 c3 p4 t4 r4 c4 p5 t5 r5 c5 q k0 k6 s6 s1 k1 s2 k2 s3 k3 s4 k4 s5 k5 : Nat} (e0 : r0 + 18446744073709551616 * c0 = p0 + t0) (e1 : r1 + 18446744073709551616 * c1 = p1 + t1 + c0) (e2 : r2 + 18446744073709551616 * c2 = p2 + t2 + c1) (e3 : r3 + 18446744073709551616 * c3 = p3 + t3 + c2) (e4 : r4 + 18446744073709551616 * c4 = p4 + t4 + c3) (e5 : r5 + 18446744073709551616 * c5 = p5 + t5 + c4) (f0 : 18446744073709551616 * k0 = q * 13402431016077863595 + r0) (f1 : s1 + 18446744073709551616 * k1 = q * 2210141511517208575 + r1 + k0) (f2 : s2 + 18446744073709551616 * k2 = q * 7435674573564081700 + r2 + k1) (f3 : s3 + 18446744073709551616 * k3 = q * 7239337960414712511 + r3 + k2) (f4 : s4 + 18446744073709551616 * k4 = q * 5412103778470702295 + r4 + k3) (f5 : s5 + 18446744073709551616 * k5 = q * 1873798617647539866 + r5 + k4) (f6 : s6 + 18446744073709551616 * k6 = c5 + k5) :
    18446744073709551616 * (s1 + 18446744073709551616 * s2 + 340282366920938463463374607431768211456 * s3 + 6277101735386680763835789423207666416102355444464034512896 * s4 + 115792089237316195423570985008687907853269984665640564039457584007913129639936 * s5 + 2135987035920910082395021706169552114602704522356652769947041607822219725780640550022962086936576 * s6) + 726838724295606890549323807888004534353641360687318060281490199180639288113397923326191050713763565560762521606266177933534601628614656 * k6 = (p0 + 18446744073709551616 * p1 + 340282366920938463463374607431768211456 * p2 + 6277101735386680763835789423207666416102355444464034512896 * p3 + 115792089237316195423570985008687907853269984665640564039457584007913129639936 * p4 + 2135987035920910082395021706169552114602704522356652769947041607822219725780640550022962086936576 * p5) + (t0 + 18446744073709551616 * t1 + 340282366920938463463374607431768211456 * t2 + 6277101735386680763835789423207666416102355444464034512896 * t3 + 115792089237316195423570985008687907853269984665640564039457584007913129639936 * t4 + 2135987035920910082395021706169552114602704522356652769947041607822219725780640550022962086936576 * t5) + q * 4002409555221667393417789825735904156556882819939007885332058136124031650490837864442687629129015664037894272559787 := by
  omega

theorem val_mul (x : Nat) (a : W6) : x * a.val = (x * a.w0.toNat) + 18446744073709551616 * (x * a.w1.toNat) + 340282366920938463463374607431768211456 * (x * a.w2.toNat) + 6277101735386680763835789423207666416102355444464034512896 * (x * a.w3.toNat) + 115792089237316195423570985008687907853269984665640564039457584007913129639936 * (x * a.w4.toNat) + 2135987035920910082395021706169552114602704522356652769947041607822219725780640550022962086936576 * (x * a.w5.toNat) := by
  simp only [W6.val, Nat.mul_add, Nat.mul_left_comm x]

theorem neg_inv (r : BitVec 64) : (r * 9940570264628428797#64 * primeW.w0).toNat = (r.toNat * 18446744073709551615) % 18446744073709551616 := by
  rw [BitVec.mul_assoc, BitVec.toNat_mul]
  rfl

theorem low_zero (r : BitVec 64) : (mul64 (r * 9940570264628428797#64) primeW.w0).2 + r + bitW false = 0#64 := by
  apply BitVec.eq_of_toNat_eq
  show (r * 9940570264628428797#64 * primeW.w0 + r + bitW false).toNat = 0
  have hr := r.isLt
  rw [BitVec.toNat_add, BitVec.toNat_add, neg_inv, bitW_nat]
  show ((r.toNat * 18446744073709551615 % 18446744073709551616 + r.toNat) % 18446744073709551616 + 0) % 18446744073709551616 = 0
  omega

theorem p_words : primeW.w0.toNat = 13402431016077863595 ∧ primeW.w1.toNat = 2210141511517208575 ∧ primeW.w2.toNat = 7435674573564081700 ∧ primeW.w3.toNat = 7239337960414712511 ∧ primeW.w4.toNat = 5412103778470702295 ∧ primeW.w5.toNat = 1873798617647539866 := by decide +kernel

theorem mulRound_eq {a : W6} {x : BitVec 64} {t : W7} {r0 r1 r2 r3 r4 r5 s1 s2 s3 s4 s5 m : BitVec 64 × BitVec 64} {s0 s6 : BitVec 64 × Bool} {q k0 : BitVec 64}
    (hr0 : mac x a.w0 t.l.w0 (bitW false) = r0) (hr1 : mac x a.w1 t.l.w1 r0.2 = r1) (hr2 : mac x a.w2 t.l.w2 r1.2 = r2) (hr3 : mac x a.w3 t.l.w3 r2.2 = r3) (hr4 : mac x a.w4 t.l.w4 r3.2 = r4) (hr5 : mac x a.w5 t.l.w5 r4.2 = r5)
    (hq : r0.1 * 9940570264628428797#64 = q) (hm : mul64 q primeW.w0 = m) (hs0 : add64 m.2 r0.1 false = s0) (hk : m.1 + bitW s0.2 = k0)
    (hs1 : mac q primeW.w1 r1.1 k0 = s1) (hs2 : mac q primeW.w2 r2.1 s1.2 = s2) (hs3 : mac q primeW.w3 r3.1 s2.2 = s3) (hs4 : mac q primeW.w4 r4.1 s3.2 = s4) (hs5 : mac q primeW.w5 r5.1 s4.2 = s5) (hs6 : add64 (t.w6 + r5.2) s5.2 false = s6) :
    mulRound a x t = ⟨⟨s1.1, s2.1, s3.1, s4.1, s5.1, s6.1⟩, bitW s6.2⟩ := by
  subst hr0 hr1 hr2 hr3 hr4 hr5 hq hm hs0 hk hs1 hs2 hs3 hs4 hs5 hs6
  rfl

theorem carry_first {q r m1 m2 : Nat} {c : Nat} (hc : c ≤ 1) (hq : q < 18446744073709551616) (hm : m2 + 18446744073709551616 * m1 = q * 13402431016077863595) (hs : 18446744073709551616 * c = m2 + r) : m1 + c < 18446744073709551616 ∧ 18446744073709551616 * (m1 + c) = q * 13402431016077863595 + r := by
  omega

theorem round_end {xA A T q v k : Nat} (ha : A < 4002409555221667393417789825735904156556882819939007885332058136124031650490837864442687629129015664037894272559787) (ht : T < A + 4002409555221667393417789825735904156556882819939007885332058136124031650490837864442687629129015664037894272559787) (hx : xA ≤ 18446744073709551615 * A) (hq : q < 18446744073709551616) (hs : 18446744073709551616 * v + 726838724295606890549323807888004534353641360687318060281490199180639288113397923326191050713763565560762521606266177933534601628614656 * k = xA + T + q * 4002409555221667393417789825735904156556882819939007885332058136124031650490837864442687629129015664037894272559787) : k = 0 ∧ v < A + 4002409555221667393417789825735904156556882819939007885332058136124031650490837864442687629129015664037894272559787 ∧ 18446744073709551616 * v = xA + T + q * 4002409555221667393417789825735904156556882819939007885332058136124031650490837864442687629129015664037894272559787 := by
  have hk : k = 0 := by omega
  subst hk
  omega

theorem round_nat (a : W6) (x : BitVec 64) (t : W7) (hw : t.w6 = 0#64) (ha : a.val < pN) (ht : t.l.val < a.val + pN) :
    ∃ q : Nat, (mulRound a x t).w6 = 0#64 ∧ (mulRound a x t).l.val < a.val + pN ∧ 18446744073709551616 * (mulRound a x t).l.val = x.toNat * a.val + t.l.val + q * pN := by
  obtain ⟨g0, g1, g2, g3, g4, g5⟩ := p_words
  obtain ⟨r0, hr0⟩ : ∃ r, mac x a.w0 t.l.w0 (bitW false) = r := ⟨_, rfl⟩
  obtain ⟨r1, hr1⟩ : ∃ r, mac x a.w1 t.l.w1 r0.2 = r := ⟨_, rfl⟩
  obtain ⟨r2, hr2⟩ : ∃ r, mac x a.w2 t.l.w2 r1.2 = r := ⟨_, rfl⟩
  obtain ⟨r3, hr3⟩ : ∃ r, mac x a.w3 t.l.w3 r2.2 = r := ⟨_, rfl⟩
  obtain ⟨r4, hr4⟩ : ∃ r, mac x a.w4 t.l.w4 r3.2 = r := ⟨_, rfl⟩
  obtain ⟨r5, hr5⟩ : ∃ r, mac x a.w5 t.l.w5 r4.2 = r := ⟨_, rfl⟩
  obtain ⟨q, hq⟩ : ∃ q, r0.1 * 9940570264628428797#64 = q := ⟨_, rfl⟩
  obtain ⟨m, hm⟩ : ∃ m, mul64 q primeW.w0 = m := ⟨_, rfl⟩
  obtain ⟨s0, hs0⟩ : ∃ s, add64 m.2 r0.1 false = s := ⟨_, rfl⟩
  obtain ⟨k0, hk⟩ : ∃ k, m.1 + bitW s0.2 = k := ⟨_, rfl⟩
  obtain ⟨s1, hs1⟩ : ∃ s, mac q primeW.w1 r1.1 k0 = s := ⟨_, rfl⟩
  obtain ⟨s2, hs2⟩ : ∃ s, mac q primeW.w2 r2.1 s1.2 = s := ⟨_, rfl⟩
  obtain ⟨s3, hs3⟩ : ∃ s, mac q primeW.w3 r3.1 s2.2 = s := ⟨_, rfl⟩
  obtain ⟨s4, hs4⟩ : ∃ s, mac q primeW.w4 r4.1 s3.2 = s := ⟨_, rfl⟩
  obtain ⟨s5, hs5⟩ : ∃ s, mac q primeW.w5 r5.1 s4.2 = s := ⟨_, rfl⟩
  obtain ⟨s6, hs6⟩ : ∃ s, add64 (t.w6 + r5.2) s5.2 false = s := ⟨_, rfl⟩
  have hres := mulRound_eq hr0 hr1 hr2 hr3 hr4 hr5 hq hm hs0 hk hs1 hs2 hs3 hs4 hs5 hs6
  have e0 := mac_nat x a.w0 t.l.w0 (bitW false)
  rw [hr0, show (bitW false).toNat = 0 from rfl, Nat.add_zero] at e0
  have e1 := mac_nat x a.w1 t.l.w1 r0.2
  rw [hr1] at e1
  have e2 := mac_nat x a.w2 t.l.w2 r1.2
  rw [hr2] at e2
  have e3 := mac_nat x a.w3 t.l.w3 r2.2
  rw [hr3] at e3
  have e4 := mac_nat x a.w4 t.l.w4 r3.2
  rw [hr4] at e4
  have e5 := mac_nat x a.w5 t.l.w5 r4.2
  rw [hr5] at e5
  have lz := low_zero r0.1
  rw [hq, hm] at lz
  have m0 := mul64_nat q primeW.w0
  rw [hm, g0] at m0
  have z0 := add64_nat m.2 r0.1 false
  rw [show (add64 m.2 r0.1 false).1 = 0#64 from lz, hs0, show b2n false = 0 from rfl, show (0#64).toNat = 0 from rfl, Nat.add_zero, Nat.zero_add] at z0
  obtain ⟨c1, c2⟩ := carry_first (b2n_le s0.2) q.isLt m0 z0
  have hk0 : k0.toNat = m.1.toNat + b2n s0.2 := by
    rw [← hk, BitVec.toNat_add, bitW_nat]
    exact Nat.mod_eq_of_lt c1
  rw [← hk0] at c2
  have f1 := mac_nat q primeW.w1 r1.1 k0
  rw [hs1, g1] at f1
  have f2 := mac_nat q primeW.w2 r2.1 s1.2
  rw [hs2, g2] at f2
  have f3 := mac_nat q primeW.w3 r3.1 s2.2
  rw [hs3, g3] at f3
  have f4 := mac_nat q primeW.w4 r4.1 s3.2
  rw [hs4, g4] at f4
  have f5 := mac_nat q primeW.w5 r5.1 s4.2
  rw [hs5, g5] at f5
  have f6 := add64_nat (t.w6 + r5.2) s5.2 false
  rw [hs6, show (t.w6 + r5.2) = r5.2 by rw [hw, BitVec.zero_add], show b2n false = 0 from rfl, Nat.add_zero] at f6
  have sum := round_sum e0 e1 e2 e3 e4 e5 c2 f1 f2 f3 f4 f5 f6
  have xA : x.toNat * a.val ≤ 18446744073709551615 * a.val := Nat.mul_le_mul_right _ (Nat.le_of_lt_succ x.isLt)
  rw [← val_mul x.toNat a] at sum
  obtain ⟨n1, n2, n3⟩ := round_end (v := (W6.mk s1.1 s2.1 s3.1 s4.1 s5.1 s6.1).val) (T := t.l.val) ha ht xA q.isLt sum
  refine ⟨q.toNat, ?_, ?_, ?_⟩
  · rw [hres]
    show bitW s6.2 = 0#64
    cases hh : s6.2 with
    | false => rfl
    | true => rw [hh] at n1; cases n1
  · rw [hres]; exact n2
  · rw [hres]; exact n3


def rinvN : Nat := 3231460744492646417066832100176244795738767926513225105051837195607029917124509527734802654356338138714468589979680
/-- The product of two elements. -/
def mulN (a b : Nat) : Nat := a * b * rinvN % pN

theorem raw_sum {x1 q1 v1 x2 q2 v2 x3 q3 v3 x4 q4 v4 x5 q5 v5 x6 q6 v6 : Nat} (h1 : 18446744073709551616 * v1 = x1 + q1 * 4002409555221667393417789825735904156556882819939007885332058136124031650490837864442687629129015664037894272559787) (h2 : 18446744073709551616 * v2 = x2 + v1 + q2 * 4002409555221667393417789825735904156556882819939007885332058136124031650490837864442687629129015664037894272559787) (h3 : 18446744073709551616 * v3 = x3 + v2 + q3 * 4002409555221667393417789825735904156556882819939007885332058136124031650490837864442687629129015664037894272559787) (h4 : 18446744073709551616 * v4 = x4 + v3 + q4 * 4002409555221667393417789825735904156556882819939007885332058136124031650490837864442687629129015664037894272559787) (h5 : 18446744073709551616 * v5 = x5 + v4 + q5 * 4002409555221667393417789825735904156556882819939007885332058136124031650490837864442687629129015664037894272559787) (h6 : 18446744073709551616 * v6 = x6 + v5 + q6 * 4002409555221667393417789825735904156556882819939007885332058136124031650490837864442687629129015664037894272559787) :
    39402006196394479212279040100143613805079739270465446667948293404245721771497210611414266254884915640806627990306816 * v6 = (x1 + 18446744073709551616 * x2 + 340282366920938463463374607431768211456 * x3 + 6277101735386680763835789423207666416102355444464034512896 * x4 + 115792089237316195423570985008687907853269984665640564039457584007913129639936 * x5 + 2135987035920910082395021706169552114602704522356652769947041607822219725780640550022962086936576 * x6) + (q1 + 18446744073709551616 * q2 + 340282366920938463463374607431768211456 * q3 + 6277101735386680763835789423207666416102355444464034512896 * q4 + 115792089237316195423570985008687907853269984665640564039457584007913129639936 * q5 + 2135987035920910082395021706169552114602704522356652769947041607822219725780640550022962086936576 * q6) * 4002409555221667393417789825735904156556882819939007885332058136124031650490837864442687629129015664037894272559787 := by
  omega

theorem mulRaw_nat (a b : W6) (ha : a.val < pN) : (mulRaw a b).l.val < a.val + pN ∧ ∃ Q, 39402006196394479212279040100143613805079739270465446667948293404245721771497210611414266254884915640806627990306816 * (mulRaw a b).l.val = b.val * a.val + Q * pN := by
  have z0 : zero7.w6 = 0#64 := rfl
  have zv : zero7.l.val = 0 := rfl
  have hp : pN = 4002409555221667393417789825735904156556882819939007885332058136124031650490837864442687629129015664037894272559787 := rfl
  unfold mulRaw
  obtain ⟨q1, w1, l1, h1⟩ := round_nat a b.w0 zero7 z0 ha (by rw [zv]; exact Nat.lt_of_lt_of_le (by decide +kernel : 0 < pN) (Nat.le_add_left _ _))
  generalize mulRound a b.w0 zero7 = t1 at w1 l1 h1 ⊢
  obtain ⟨q2, w2, l2, h2⟩ := round_nat a b.w1 t1 w1 ha l1
  generalize mulRound a b.w1 t1 = t2 at w2 l2 h2 ⊢
  obtain ⟨q3, w3, l3, h3⟩ := round_nat a b.w2 t2 w2 ha l2
  generalize mulRound a b.w2 t2 = t3 at w3 l3 h3 ⊢
  obtain ⟨q4, w4, l4, h4⟩ := round_nat a b.w3 t3 w3 ha l3
  generalize mulRound a b.w3 t3 = t4 at w4 l4 h4 ⊢
  obtain ⟨q5, w5, l5, h5⟩ := round_nat a b.w4 t4 w4 ha l4
  generalize mulRound a b.w4 t4 = t5 at w5 l5 h5 ⊢
  obtain ⟨q6, w6, l6, h6⟩ := round_nat a b.w5 t5 w5 ha l5
  generalize mulRound a b.w5 t5 = t6 at w6 l6 h6 ⊢
  refine ⟨l6, q1 + 18446744073709551616 * q2 + 340282366920938463463374607431768211456 * q3 + 6277101735386680763835789423207666416102355444464034512896 * q4 + 115792089237316195423570985008687907853269984665640564039457584007913129639936 * q5 + 2135987035920910082395021706169552114602704522356652769947041607822219725780640550022962086936576 * q6, ?_⟩
  rw [zv, Nat.add_zero] at h1
  rw [hp] at h1 h2 h3 h4 h5 h6 ⊢
  have hb : b.val * a.val = (b.w0.toNat * a.val) + 18446744073709551616 * (b.w1.toNat * a.val) + 340282366920938463463374607431768211456 * (b.w2.toNat * a.val) + 6277101735386680763835789423207666416102355444464034512896 * (b.w3.toNat * a.val) + 115792089237316195423570985008687907853269984665640564039457584007913129639936 * (b.w4.toNat * a.val) + 2135987035920910082395021706169552114602704522356652769947041607822219725780640550022962086936576 * (b.w5.toNat * a.val) := by
    rw [Nat.mul_comm, val_mul]
    simp only [Nat.mul_comm a.val]
  rw [hb]
  exact raw_sum h1 h2 h3 h4 h5 h6


theorem rinv_ok : 39402006196394479212279040100143613805079739270465446667948293404245721771497210611414266254884915640806627990306816 * rinvN % pN = 1 := by decide +kernel

/-- The product is the number's product with 2^-384. -/
theorem mulW_nat (a b : W6) (ha : a.val < pN) : (mulW a b).val = mulN a.val b.val := by
  obtain ⟨h1, Q, h2⟩ := mulRaw_nat a b ha
  have hm : mulW a b = lessW (mulRaw a b).l := rfl
  rw [hm]
  generalize (mulRaw a b).l = M at h1 h2 ⊢
  have h3 := lessW_nat M (Nat.lt_of_lt_of_le h1 (by rw [Nat.two_mul]; exact Nat.add_le_add_right (Nat.le_of_lt ha) _))
  have hp0 : 0 < pN := by decide +kernel
  have hq : M.val < 2 * pN := Nat.lt_of_lt_of_le h1 (by rw [Nat.two_mul]; exact Nat.add_le_add_right (Nat.le_of_lt ha) _)
  generalize M.val = m at h1 h2 h3 hq ⊢
  have hv : (lessW M).val < pN ∧ (lessW M).val % pN = m % pN := by
    rw [h3]
    split
    · exact ⟨by assumption, rfl⟩
    · rename_i hn
      generalize pN = p at hn hq hp0 ⊢
      refine ⟨by omega, ?_⟩
      rw [← Nat.mod_eq_sub_mod (by omega)]
  have h4 : 39402006196394479212279040100143613805079739270465446667948293404245721771497210611414266254884915640806627990306816 * m % pN = a.val * b.val % pN := by
    rw [h2, Nat.add_mul_mod_self_right, Nat.mul_comm]
  have h5 : m % pN = mulN a.val b.val := by
    unfold mulN
    have : m * (39402006196394479212279040100143613805079739270465446667948293404245721771497210611414266254884915640806627990306816 * rinvN) % pN = m % pN := by
      rw [Nat.mul_mod, rinv_ok, Nat.mul_one, Nat.mod_mod]
    rw [← this]
    rw [show m * (39402006196394479212279040100143613805079739270465446667948293404245721771497210611414266254884915640806627990306816 * rinvN) = 39402006196394479212279040100143613805079739270465446667948293404245721771497210611414266254884915640806627990306816 * m * rinvN by rw [← Nat.mul_assoc, Nat.mul_comm m]]
    rw [Nat.mul_mod, h4, ← Nat.mul_mod]
  rw [← h5, ← hv.2, Nat.mod_eq_of_lt hv.1]

theorem mulN_lt (a b : Nat) : mulN a b < pN := Nat.mod_lt _ (by decide +kernel)
end Go.Rq

/- The curves' formulas go alike over fields that go alike; the two fields as numbers. -/
namespace Go.Rq
open Go

/-- Two fields' operations that go alike. -/
structure FRel {A B : Type} (R : A → B → Prop) (o : FO A) (o' : FO B) (e : A → A → Bool) (e' : B → B → Bool) : Prop where
  add : ∀ {a b c d}, R a b → R c d → R (o.add a c) (o'.add b d)
  sub : ∀ {a b c d}, R a b → R c d → R (o.sub a c) (o'.sub b d)
  mul : ∀ {a b c d}, R a b → R c d → R (o.mul a c) (o'.mul b d)
  neg : ∀ {a b}, R a b → R (o.neg a) (o'.neg b)
  inv : ∀ {a b}, R a b → R (o.inv a) (o'.inv b)
  zero : R o.zero o'.zero
  eq : ∀ {a b c d}, R a b → R c d → e a c = e' b d

section
variable {A B : Type} {R : A → B → Prop} {o : FO A} {o' : FO B} {e : A → A → Bool} {e' : B → B → Bool}

structure RJ (R : A → B → Prop) (p : Jp A) (q : Jp B) : Prop where
  x : R p.x q.x
  y : R p.y q.y
  z : R p.z q.z

structure RA (R : A → B → Prop) (p : Ap A) (q : Ap B) : Prop where
  x : R p.x q.x
  y : R p.y q.y
  z : p.zero = q.zero

structure RFl (R : A → B → Prop) (f : Fl A) (g : Fl B) : Prop where
  one : R f.one g.one
  b : R f.b g.b

theorem raise_rel (h : FRel R o o' e e') {f : Fl A} {g : Fl B} (hf : RFl R f g) {p : Ap A} {q : Ap B} (hp : RA R p q) : RJ R (raiseJ o f p) (raiseJ o' g q) := by
  unfold raiseJ
  rw [hp.z]
  cases q.zero
  · exact ⟨hp.x, hp.y, hf.one⟩
  · exact ⟨hf.one, hf.one, h.zero⟩

theorem twice_rel (h : FRel R o o' e e') {p : Jp A} {q : Jp B} (hp : RJ R p q) : RJ R (twiceJ o p) (twiceJ o' q) := by
  have yy := h.mul hp.y hp.y
  have s1 := h.mul hp.x yy
  have s2 := h.add s1 s1
  have s := h.add s2 s2
  have m1 := h.mul hp.x hp.x
  have m := h.add (h.add m1 m1) m1
  have x := h.sub (h.mul m m) (h.add s s)
  have e0 := h.mul yy yy
  have e1 := h.add e0 e0
  have e2 := h.add e1 e1
  have e3 := h.add e2 e2
  have z := h.mul hp.y hp.z
  exact ⟨x, h.sub (h.mul m (h.sub s x)) e3, h.add z z⟩

theorem lowerJ_rel (h : FRel R o o' e e') {p : Jp A} {q : Jp B} (hp : RJ R p q) : RA R (lowerJ o p) (lowerJ o' q) := by
  have i := h.inv hp.z
  have s := h.mul i i
  exact ⟨h.mul hp.x s, h.mul hp.y (h.mul s i), rfl⟩

theorem lower_rel (h : FRel R o o' e e') {p : Jp A} {q : Jp B} (hp : RJ R p q) : RA R (lowerE o e p) (lowerE o' e' q) := by
  unfold lowerE
  rw [h.eq hp.z h.zero]
  cases e' q.z o'.zero
  · exact lowerJ_rel h hp
  · exact ⟨h.zero, h.zero, rfl⟩

theorem neg_rel (h : FRel R o o' e e') {p : Ap A} {q : Ap B} (hp : RA R p q) : RA R (negE o p) (negE o' q) := ⟨hp.x, h.sub h.zero hp.y, hp.z⟩

theorem on_rel (h : FRel R o o' e e') {f : Fl A} {g : Fl B} (hf : RFl R f g) {p : Ap A} {q : Ap B} (hp : RA R p q) : onE o e f p = onE o' e' g q := by
  unfold onE
  rw [hp.z, h.eq hp.x h.zero, h.eq hp.y h.zero, h.eq (h.mul hp.y hp.y) (h.add (h.mul (h.mul hp.x hp.x) hp.x) hf.b)]

theorem hJ_rel (h : FRel R o o' e e') {p q : Jp A} {p' q' : Jp B} (hp : RJ R p p') (hq : RJ R q q') : R (hJ o p q) (hJ o' p' q') :=
  h.sub (h.mul hq.x (h.mul hp.z hp.z)) (h.mul hp.x (h.mul hq.z hq.z))

theorem rJ_rel (h : FRel R o o' e e') {p q : Jp A} {p' q' : Jp B} (hp : RJ R p p') (hq : RJ R q q') : R (rJ o p q) (rJ o' p' q') :=
  h.sub (h.mul hq.y (h.mul (h.mul hp.z hp.z) hp.z)) (h.mul hp.y (h.mul (h.mul hq.z hq.z) hq.z))

theorem sumJ_rel (h : FRel R o o' e e') {p q : Jp A} {p' q' : Jp B} (hp : RJ R p p') (hq : RJ R q q') : RJ R (sumJ o p q) (sumJ o' p' q') := by
  have pp := h.mul hp.z hp.z
  have qq := h.mul hq.z hq.z
  have u := h.mul hp.x qq
  have v := h.mul hq.x pp
  have s := h.mul hp.y (h.mul qq hq.z)
  have t := h.mul hq.y (h.mul pp hp.z)
  have hh := h.sub v u
  have r := h.sub t s
  have h2 := h.mul hh hh
  have h3 := h.mul h2 hh
  have w := h.mul u h2
  have x := h.sub (h.sub (h.mul r r) h3) (h.add w w)
  exact ⟨x, h.sub (h.mul r (h.sub w x)) (h.mul s h3), h.mul hh (h.mul hp.z hq.z)⟩

theorem sum_rel (h : FRel R o o' e e') {f : Fl A} {g : Fl B} (hf : RFl R f g) {p q : Jp A} {p' q' : Jp B} (hp : RJ R p p') (hq : RJ R q q') : RJ R (sumE o e f p q) (sumE o' e' g p' q') := by
  unfold sumE
  rw [h.eq hp.z h.zero, h.eq hq.z h.zero, h.eq (hJ_rel h hp hq) h.zero, h.eq (rJ_rel h hp hq) h.zero]
  cases e' p'.z o'.zero
  · cases e' q'.z o'.zero
    · cases e' (hJ o' p' q') o'.zero
      · exact sumJ_rel h hp hq
      · cases e' (rJ o' p' q') o'.zero
        · exact ⟨hf.one, hf.one, h.zero⟩
        · exact twice_rel h hp
    · exact hp
  · exact hq
end

/-! The first field as numbers. -/

/-- A number is reckoned ahead. -/
def forceN {α : Type} (x : Nat) (f : Nat → α) : α := Nat.rec (f 0) (fun n _ => f (n + 1)) x

theorem forceN_eq {α : Type} (x : Nat) (f : Nat → α) : forceN x f = f x := by cases x <;> rfl

def powS (a : Nat) (e : W6) : Nat → Nat → Nat
  | 0, out => out
  | k + 1, out => forceN (bif e.bit k then mulN (mulN out out) a else mulN out out) fun r => powS a e k r

def addN (a b : Nat) : Nat := (a + b) % pN
def subN (a b : Nat) : Nat := (a + (pN - b)) % pN
def negN (a : Nat) : Nat := subN 0 a
def oneN : Nat := 3380320199399472671518931668520476396067793891014375699959770179129436917079669831430077592723774664465579537268733
def wideN : Nat := 2708263910654730174793787626328176511836455197166317677006154293982164122222515399004018013397331347120527951271750
def invN (a : Nat) : Nat := powS a expInv 384 oneN
def toN (a : Nat) : Nat := mulN wideN a
def backN (a : Nat) : Nat := mulN a 1
def fN : FO Nat := ⟨addN, subN, mulN, negN, invN, toN, backN, oneN, 0⟩

structure Rep (n : Nat) (w : W6) : Prop where
  val : w.val = n
  lt : n < pN

theorem pN_pos : 0 < pN := by decide +kernel
theorem pN_eq : pN = 4002409555221667393417789825735904156556882819939007885332058136124031650490837864442687629129015664037894272559787 := rfl

theorem rep_mul {a c : Nat} {b d : W6} (h : Rep a b) (k : Rep c d) : Rep (mulN a c) (mulW b d) := ⟨by rw [mulW_nat b d (by rw [h.val]; exact h.lt), h.val, k.val], mulN_lt _ _⟩

theorem rep_add {a c : Nat} {b d : W6} (h : Rep a b) (k : Rep c d) : Rep (addN a c) (addW b d) := by
  unfold addN
  refine ⟨?_, Nat.mod_lt _ pN_pos⟩
  have h1 := adds_nat b d
  rw [h.val, k.val] at h1
  have h2 := h.lt
  have h3 := k.lt
  have hl := (adds b d).1.val_lt
  have hb := b2n_le (adds b d).2
  show (lessW (adds b d).1).val = _
  generalize (adds b d).1 = s at h1 hl ⊢
  generalize b2n (adds b d).2 = cc at h1 hb
  have h4 := lessW_nat s (by rw [pN_eq] at h2 h3 ⊢; generalize s.val = v at *; omega)
  rw [h4]
  rw [pN_eq] at h2 h3 ⊢
  generalize s.val = v at *
  have hv : v = a + c := by omega
  subst hv
  split
  · rename_i hlt
    rw [Nat.mod_eq_of_lt hlt]
  · rename_i hge
    rw [Nat.mod_eq_sub_mod (by omega), Nat.mod_eq_of_lt (by omega)]

theorem rep_sub {a c : Nat} {b d : W6} (h : Rep a b) (k : Rep c d) : Rep (subN a c) (subW b d) := by
  unfold subN
  refine ⟨?_, Nat.mod_lt _ pN_pos⟩
  have h1 := subs_nat b d
  rw [h.val, k.val] at h1
  have h2 := h.lt
  have h3 := k.lt
  have hl := (subs b d).1.val_lt
  unfold subW
  cases hb : (subs b d).2 with
  | false =>
    rw [hb] at h1
    have z : b2n false = 0 := rfl
    rw [z, Nat.mul_zero, Nat.add_zero] at h1
    simp only [cond_false]
    generalize (subs b d).1.val = v at *
    rw [pN_eq] at h2 h3 ⊢
    rw [Nat.mod_eq_sub_mod (by omega), Nat.mod_eq_of_lt (by omega)]
    omega
  | true =>
    rw [hb] at h1
    have z : b2n true = 1 := rfl
    rw [z, Nat.mul_one] at h1
    simp only [cond_true]
    have h5 := adds_nat (subs b d).1 primeW
    rw [prime_val] at h5
    have hl2 := (adds (subs b d).1 primeW).1.val_lt
    have hb2 := b2n_le (adds (subs b d).1 primeW).2
    generalize (adds (subs b d).1 primeW).1.val = u at *
    generalize b2n (adds (subs b d).1 primeW).2 = cc at *
    generalize (subs b d).1.val = v at *
    rw [pN_eq] at h2 h3 h5 ⊢
    rw [Nat.mod_eq_of_lt (by omega)]
    omega

theorem W6.val_inj {a b : W6} (h : a.val = b.val) : a = b := by
  have f : ∀ x : BitVec 64, x.toNat < 18446744073709551616 := fun x => x.isLt
  obtain ⟨a0, a1, a2, a3, a4, a5⟩ := a
  obtain ⟨b0, b1, b2, b3, b4, b5⟩ := b
  simp only [W6.val] at h
  have g0 := f a0; have g1 := f a1; have g2 := f a2; have g3 := f a3; have g4 := f a4; have g5 := f a5
  have k0 := f b0; have k1 := f b1; have k2 := f b2; have k3 := f b3; have k4 := f b4; have k5 := f b5
  have e0 : a0 = b0 := BitVec.eq_of_toNat_eq (by omega)
  have e1 : a1 = b1 := BitVec.eq_of_toNat_eq (by omega)
  have e2 : a2 = b2 := BitVec.eq_of_toNat_eq (by omega)
  have e3 : a3 = b3 := BitVec.eq_of_toNat_eq (by omega)
  have e4 : a4 = b4 := BitVec.eq_of_toNat_eq (by omega)
  have e5 : a5 = b5 := BitVec.eq_of_toNat_eq (by omega)
  subst e0 e1 e2 e3 e4 e5
  rfl

theorem eqW_iff (a b : W6) : eqW a b = true ↔ a = b := by
  obtain ⟨a0, a1, a2, a3, a4, a5⟩ := a
  obtain ⟨b0, b1, b2, b3, b4, b5⟩ := b
  simp [eqW]

theorem rep_eq {a c : Nat} {b d : W6} (h : Rep a b) (k : Rep c d) : Nat.beq a c = eqW b d := by
  rw [Bool.eq_iff_iff, eqW_iff, Nat.beq_eq]
  constructor
  · intro e; exact W6.val_inj (by rw [h.val, k.val, e])
  · intro e; rw [← h.val, ← k.val, e]

theorem rep_pow {a : Nat} {b : W6} (h : Rep a b) (e : W6) : ∀ (k : Nat) {n : Nat} {w : W6}, Rep n w → Rep (powS a e k n) (powG mulW b e k w)
  | 0, n, w, hn => hn
  | k + 1, n, w, hn => by
    simp only [powS, powG, forceN_eq]
    apply rep_pow h e k
    cases e.bit k
    · rw [cond_false, cond_false]; exact rep_mul hn hn
    · rw [cond_true, cond_true]; exact rep_mul (rep_mul hn hn) h

theorem one_val : oneW.val = oneN := by decide +kernel
theorem zero_val : zeroW.val = 0 := by decide +kernel
theorem wide_val : wideW.val = wideN := by decide +kernel
theorem oneN_lt : oneN < pN := by decide +kernel
theorem wideN_lt : wideN < pN := by decide +kernel
theorem rep_one : Rep oneN oneW := ⟨one_val, oneN_lt⟩
theorem rep_zero : Rep 0 zeroW := ⟨zero_val, pN_pos⟩
theorem rep_inv {a : Nat} {b : W6} (h : Rep a b) : Rep (invN a) (invW b) := by
  unfold invN invW pow384
  exact rep_pow h expInv 384 rep_one

theorem rep_neg {a : Nat} {b : W6} (h : Rep a b) : Rep (negN a) (negW b) := by
  unfold negN negW
  exact rep_sub rep_zero h

/-- A told number, as an element. -/
theorem rep_to (a : W6) : Rep (toN a.val) (toW a) := by
  unfold toN toW
  exact ⟨by rw [mulW_nat wideW a (by rw [wide_val]; exact wideN_lt), wide_val], mulN_lt _ _⟩

/-- An element, as a told number. -/
theorem rep_back {a : Nat} {b : W6} (h : Rep a b) : (fromW b).val = backN a := by
  unfold backN fromW
  rw [mulW_nat b _ (by rw [h.val]; exact h.lt), h.val]
  have : (W6.mk 1#64 0#64 0#64 0#64 0#64 0#64).val = 1 := by decide +kernel
  rw [this]

theorem fN_add : fN.add = addN := by simp only [fN]
theorem fN_sub : fN.sub = subN := by simp only [fN]
theorem fN_mul : fN.mul = mulN := by simp only [fN]
theorem fN_neg : fN.neg = negN := by simp only [fN]
theorem fN_inv : fN.inv = invN := by simp only [fN]
theorem fW_add : fW.add = addW := by simp only [fW]
theorem fW_sub : fW.sub = subW := by simp only [fW]
theorem fW_mul : fW.mul = mulW := by simp only [fW]
theorem fW_neg : fW.neg = negW := by simp only [fW]
theorem fW_inv : fW.inv = invW := by simp only [fW]
theorem relW : FRel Rep fN fW Nat.beq eqW where
  add h k := by rw [fN_add, fW_add]; exact rep_add h k
  sub h k := by rw [fN_sub, fW_sub]; exact rep_sub h k
  mul h k := by rw [fN_mul, fW_mul]; exact rep_mul h k
  neg h := by rw [fN_neg, fW_neg]; exact rep_neg h
  inv h := by rw [fN_inv, fW_inv]; exact rep_inv h
  zero := rep_zero
  eq h k := rep_eq h k

end Go.Rq

/- The second field as numbers. -/
namespace Go.Rq
open Go

section
variable {A : Type} (o : FO A)
end

theorem eqD_iff (a b : D6) : eqD a b = true ↔ a = b := by
  obtain ⟨⟨a0, a1, a2, a3, a4, a5⟩, ⟨a6, a7, a8, a9, a10, a11⟩⟩ := a
  obtain ⟨⟨b0, b1, b2, b3, b4, b5⟩, ⟨b6, b7, b8, b9, b10, b11⟩⟩ := b
  simp [eqD, and_assoc]

theorem eqW_D (b d : D6) : eqD b d = bif eqW b.a d.a then eqW b.b d.b else false := by
  rw [Bool.eq_iff_iff, eqD_iff]
  cases h1 : eqW b.a d.a with
  | false =>
    rw [cond_false]
    constructor
    · intro h; rw [h, (eqW_iff _ _).2 rfl] at h1; cases h1
    · intro h; cases h
  | true =>
    have h1 := (eqW_iff _ _).1 h1
    rw [cond_true, eqW_iff]
    constructor
    · intro h; rw [h]
    · intro h2
      obtain ⟨ba, bb⟩ := b
      obtain ⟨da, db⟩ := d
      simp at h1 h2; rw [h1, h2]

section
variable {A : Type} {R : A → W6 → Prop} {o : FO A} {o' : FO W6} {e : A → A → Bool}

end

end Go.Rq

/- The great prime's field; what is reckoned with numbers, as its elements. -/
namespace Go.Rq
open Go

/-! Powers. -/
section
variable {K : Type} [Rg K]

def pwK (x : K) : Nat → K
  | 0 => 1
  | n + 1 => pwK x n * x

theorem pwK_add (x : K) (m : Nat) : ∀ n, pwK x (m + n) = pwK x m * pwK x n
  | 0 => (Rg.mul_one _).symm
  | n + 1 => by
    rw [← Nat.add_assoc]
    simp only [pwK]
    rw [pwK_add x m n, Rg.mul_assoc]
theorem pwK_two (x : K) (n : Nat) : pwK x (2 * n) = pwK x n * pwK x n := by rw [Nat.two_mul, pwK_add]

/-- The number that the lowest k bits tell. -/
def bitsV (b : Nat → Bool) : Nat → Nat
  | 0 => 0
  | k + 1 => bitsV b k + (bif b k then 2 ^ k else 0)

/-- A power, from bit k - 1 down. -/
def pwB (b : Nat → Bool) (x : K) : Nat → K → K
  | 0, n => n
  | k + 1, n => pwB b x k (bif b k then n * n * x else n * n)

theorem pwB_eq (b : Nat → Bool) (x : K) : ∀ (k m : Nat), pwB b x k (pwK x m) = pwK x (m * 2 ^ k + bitsV b k)
  | 0, m => by simp [pwB, bitsV]
  | k + 1, m => by
    simp only [pwB, bitsV]
    have e : m * 2 ^ (k + 1) = 2 * m * 2 ^ k := by rw [Nat.pow_succ, Nat.mul_comm 2 m, Nat.mul_assoc, Nat.mul_comm 2 (2 ^ k)]
    cases hb : b k
    · rw [cond_false, cond_false, ← pwK_two, pwB_eq, e]; congr 1
    · rw [cond_true, cond_true, ← pwK_two, show pwK x (2 * m) * x = pwK x (2 * m + 1) from rfl, pwB_eq, e, Nat.add_mul]
      congr 1
      omega
theorem pwB_one {b : Nat → Bool} {k n : Nat} (h : bitsV b k = n) (x : K) : pwB b x k 1 = pwK x n := by
  have e := pwB_eq b x k 0
  rw [h, Nat.zero_mul, Nat.zero_add] at e
  exact e
end

/-! Numbers below a prime. -/
section
variable {p : Nat} [NeZero p]

theorem fin_add_assoc (x y z : Fin p) : x + y + z = x + (y + z) := by grind
theorem fin_add_comm (x y : Fin p) : x + y = y + x := by grind
theorem fin_add_zero (x : Fin p) : x + 0 = x := by grind
theorem fin_neg_add (x : Fin p) : -x + x = 0 := by grind
theorem fin_mul_assoc (x y z : Fin p) : x * y * z = x * (y * z) := by grind
theorem fin_mul_comm (x y : Fin p) : x * y = y * x := by grind
theorem fin_mul_one (x : Fin p) : x * 1 = x := by grind
theorem fin_mul_add (x y z : Fin p) : x * (y + z) = x * y + x * z := by grind
theorem fin_sub_eq (x y : Fin p) : x - y = x + -y := by grind
instance ringFin : Rg (Fin p) where
  add x y := x + y
  mul x y := x * y
  neg x := -x
  sub x y := x - y
  zero := 0
  one := 1
  add_assoc := fin_add_assoc
  add_comm := fin_add_comm
  add_zero := fin_add_zero
  neg_add := fin_neg_add
  mul_assoc := fin_mul_assoc
  mul_comm := fin_mul_comm
  mul_one := fin_mul_one
  mul_add := fin_mul_add
  sub_eq := fin_sub_eq

theorem pwF_val (x : Fin p) : ∀ n : Nat, (pwK x n).val = x.val ^ n % p
  | 0 => rfl
  | n + 1 => by
    show (pwK x n * x).val = _
    rw [show (pwK x n * x).val = (pwK x n).val * x.val % p from rfl, pwF_val x n, Nat.pow_succ, Nat.mod_mul_mod]

def ivF (x : Fin p) : Fin p := pwK x (p - 2)
def eqF (x y : Fin p) : Bool := Nat.beq x.val y.val

theorem eqF_iff {p : Nat} {x y : Fin p} : eqF x y = true ↔ x = y := by
  unfold eqF
  rw [Nat.beq_eq]
  exact ⟨fun h => Fin.ext h, fun h => by rw [h]⟩

theorem fdF (h : Pr p) (h3 : 3 ≤ p) : Fd (Fin p) ivF eqF where
  inv {x} hx := by
    have hx0 : x.val ≠ 0 := fun e => hx (Fin.ext e)
    have hd : ¬ p ∣ x.val := fun hd => by
      have := Nat.le_of_dvd (by omega) hd
      have := x.isLt
      omega
    have hf := fermat h hd
    apply Fin.ext
    show x.val * (pwK x (p - 2)).val % p = 1 % p
    rw [pwF_val, Nat.mul_mod_mod, Nat.mul_comm, ← Nat.pow_succ, show (p - 2).succ = p - 1 by omega, hf, Nat.mod_eq_of_lt (by omega)]
  one e := by
    have h1 : (1 : Fin p).val = (0 : Fin p).val := by rw [e]
    have h2 : 1 % p = 0 := h1
    rw [Nat.mod_eq_of_lt (by omega)] at h2
    cases h2
  two {y} e := by
    have h1 : (y.val + y.val) % p = 0 := by
      have : (y + y).val = (0 : Fin p).val := by rw [e]
      exact this
    have hy := y.isLt
    apply Fin.ext
    show y.val = 0
    obtain ⟨k, hk⟩ := Nat.dvd_of_mod_eq_zero h1
    have hk2 : k = 0 ∨ k = 1 ∨ 2 ≤ k := by omega
    rcases hk2 with rfl | rfl | hk2
    · omega
    · exfalso
      rcases h.2 2 ⟨y.val, by omega⟩ with h2 | h2 <;> omega
    · have := Nat.mul_le_mul_left p hk2
      omega
  eq := eqF_iff

/-- A number times another one, below p. -/
def phi (r n : Nat) : Fin p := Fin.ofNat p (n * r)
theorem phi_val (r n : Nat) : (phi r n : Fin p).val = n * r % p := rfl
theorem phi_mod (r n : Nat) : (phi r (n % p) : Fin p) = phi r n := Fin.ext (by rw [phi_val, phi_val, Nat.mod_mul_mod])
theorem phi_add (r n m : Nat) : (phi r (n + m) : Fin p) = phi r n + phi r m := Fin.ext (by
  show (n + m) * r % p = (n * r % p + m * r % p) % p
  rw [Nat.add_mul, Nat.add_mod])
theorem phi_mul (r n m : Nat) : (phi r (n * m * r % p) : Fin p) = phi r n * phi r m := Fin.ext (by
  show n * m * r % p * r % p = (n * r % p) * (m * r % p) % p
  rw [Nat.mod_mul_mod, ← Nat.mul_mod]
  congr 1
  simp only [Nat.mul_assoc, Nat.mul_left_comm])
theorem phi_zero (r : Nat) : (phi r 0 : Fin p) = 0 := Fin.ext (by rw [phi_val, Nat.zero_mul]; rfl)
theorem phi_p (r : Nat) : (phi r p : Fin p) = 0 := Fin.ext (by rw [phi_val, Nat.mul_mod_right]; rfl)
theorem phi_sub (r : Nat) {n m : Nat} (h : m ≤ p) : (phi r ((n + (p - m)) % p) : Fin p) = phi r n - phi r m := by
  rw [phi_mod, phi_add]
  have h1 : (phi r (p - m) : Fin p) + phi r m = 0 := by rw [← phi_add, Nat.sub_add_cancel h, phi_p]
  apply rg_cancel (z := phi r m)
  rw [Rg.sub_eq, Rg.add_assoc, Rg.add_assoc, h1, Rg.neg_add]
theorem phi_inj {r R n m : Nat} (hr : R * r % p = 1) (hn : n < p) (hm : m < p) (h : (phi r n : Fin p) = phi r m) : n = m := by
  have h1 : n * r % p = m * r % p := congrArg Fin.val h
  have e : ∀ x, x * r % p * R % p = x % p := fun x => by
    rw [Nat.mod_mul_mod, Nat.mul_assoc, Nat.mul_comm r, Nat.mul_mod, hr, Nat.mul_one, Nat.mod_mod]
  have h2 := e n
  rw [h1, e m, Nat.mod_eq_of_lt hn, Nat.mod_eq_of_lt hm] at h2
  exact h2.symm

/-- A number that stands for an element: below p, and times r that one. -/
structure RK (r : Nat) (x : Fin p) (n : Nat) : Prop where
  lt : n < p
  eq : phi r n = x

theorem rk_eq {r R : Nat} (hr : R * r % p = 1) {x y : Fin p} {n m : Nat} (h : RK r x n) (k : RK r y m) : eqF x y = Nat.beq n m := by
  rw [Bool.eq_iff_iff, eqF_iff, Nat.beq_eq, ← h.eq, ← k.eq]
  exact ⟨fun e => phi_inj hr h.lt k.lt e, fun e => by rw [e]⟩
theorem rk_add {r : Nat} {x y : Fin p} {n m : Nat} (h : RK r x n) (k : RK r y m) : RK r (x + y) ((n + m) % p) := ⟨Nat.mod_lt _ (Nat.zero_lt_of_lt h.lt), by rw [phi_mod, phi_add, h.eq, k.eq]⟩
theorem rk_sub {r : Nat} {x y : Fin p} {n m : Nat} (h : RK r x n) (k : RK r y m) : RK r (x - y) ((n + (p - m)) % p) := ⟨Nat.mod_lt _ (Nat.zero_lt_of_lt h.lt), by rw [phi_sub r (Nat.le_of_lt k.lt), h.eq, k.eq]⟩
theorem rk_mul {r : Nat} {x y : Fin p} {n m : Nat} (h : RK r x n) (k : RK r y m) : RK r (x * y) (n * m * r % p) := ⟨Nat.mod_lt _ (Nat.zero_lt_of_lt h.lt), by rw [phi_mul, h.eq, k.eq]⟩
theorem rk_zero (r : Nat) (hp : 0 < p) : RK r (0 : Fin p) 0 := ⟨hp, phi_zero r⟩
theorem rk_neg {r : Nat} {x : Fin p} {n : Nat} (h : RK r x n) : RK r (-x) ((0 + (p - n)) % p) := by
  have := rk_sub (rk_zero r (Nat.zero_lt_of_lt h.lt)) h
  have e : (0 : Fin p) - x = -x := by rw [Rg.sub_eq]; exact rg_zero_add _
  rw [e] at this
  exact this

/-- A number that is an element. -/
structure RV (x : Fin p) (n : Nat) : Prop where
  eq : n = x.val
theorem RV.lt {p : Nat} {x : Fin p} {n : Nat} (h : RV x n) : n < p := h.eq ▸ x.isLt
theorem RV.of {p : Nat} {n : Nat} (h : n < p) : RV (⟨n, h⟩ : Fin p) n := ⟨rfl⟩
theorem rv_add {p : Nat} {x y : Fin p} {n m : Nat} (h : RV x n) (k : RV y m) : RV (x + y) ((n + m) % p) := ⟨by rw [h.eq, k.eq]; rfl⟩
theorem rv_mul {p : Nat} {x y : Fin p} {n m : Nat} (h : RV x n) (k : RV y m) : RV (x * y) (n * m % p) := ⟨by rw [h.eq, k.eq]; rfl⟩
theorem rv_neg {p : Nat} {x : Fin p} {n : Nat} (h : RV x n) : RV (-x) ((p - n) % p) := ⟨by rw [h.eq]; rfl⟩
theorem rv_sub {x y : Fin p} {n m : Nat} (h : RV x n) (k : RV y m) : RV (x - y) ((n + (p - m) % p) % p) := by
  have := rv_add h (rv_neg k)
  have e : x + -y = x - y := (Rg.sub_eq x y).symm
  rw [e] at this
  exact this
theorem rv_eq {p : Nat} {x y : Fin p} {n m : Nat} (h : RV x n) (k : RV y m) : eqF x y = Nat.beq n m := by rw [h.eq, k.eq]; rfl
/-- From the one to the other. -/
theorem rk_of_rv {r w : Nat} (hw : w * r * r % p = 1) {x : Fin p} {n : Nat} (h : RV x n) : RK r x (w * n * r % p) := by
  refine ⟨Nat.mod_lt _ (Nat.zero_lt_of_lt h.lt), ?_⟩
  rw [phi_mod]
  apply Fin.ext
  rw [phi_val, show w * n * r * r = n * (w * r * r) by simp only [Nat.mul_left_comm, Nat.mul_comm], Nat.mul_mod, hw, Nat.mul_one, Nat.mod_mod, Nat.mod_eq_of_lt h.lt, h.eq]
theorem rv_of_rk {r : Nat} {x : Fin p} {n : Nat} (h : RK r x n) : RV x (n * 1 * r % p) := ⟨by rw [← h.eq, phi_val, Nat.mul_one]⟩
end

/-! The great prime. -/
instance pN_ne : NeZero pN := ⟨Nat.ne_of_gt pN_pos⟩
/-- The field; its operations are those of a ring alone. -/
def F1 : Type := Fin pN
noncomputable instance ringF1 : Rg F1 := ringFin (p := pN)
noncomputable def iv1 : F1 → F1 := ivF (p := pN)
def eq1 : F1 → F1 → Bool := eqF (p := pN)
theorem fd1 : Fd F1 iv1 eq1 := fdF (p := pN) pr_p (by decide +kernel)
theorem iv1_pow (x : F1) : iv1 x = pwK x (pN - 2) := rfl

def RK1 (x : F1) (n : Nat) : Prop := RK (p := pN) rinvN x n
theorem exp_bits : bitsV expInv.bit 384 = pN - 2 := by decide +kernel
theorem rk1_one : RK1 (1 : F1) oneN := ⟨oneN_lt, Fin.ext (by decide +kernel)⟩
theorem rk1_zero : RK1 (0 : F1) 0 := rk_zero (p := pN) rinvN pN_pos
theorem rk1_add {x y : F1} {n m : Nat} (h : RK1 x n) (k : RK1 y m) : RK1 (x + y) (addN n m) := rk_add (p := pN) h k
theorem rk1_sub {x y : F1} {n m : Nat} (h : RK1 x n) (k : RK1 y m) : RK1 (x - y) (subN n m) := rk_sub (p := pN) h k
theorem rk1_mul {x y : F1} {n m : Nat} (h : RK1 x n) (k : RK1 y m) : RK1 (x * y) (mulN n m) := rk_mul (p := pN) h k
theorem rk1_neg {x : F1} {n : Nat} (h : RK1 x n) : RK1 (-x) (negN n) := rk_neg (p := pN) h
theorem rk1_eq {x y : F1} {n m : Nat} (h : RK1 x n) (k : RK1 y m) : eq1 x y = Nat.beq n m := rk_eq (p := pN) rinv_ok h k

theorem rk1_pow {x : F1} {n : Nat} (h : RK1 x n) (e : W6) : ∀ (k : Nat) {y : F1} {m : Nat}, RK1 y m → RK1 (pwB e.bit x k y) (powS n e k m)
  | 0, y, m, hm => hm
  | k + 1, y, m, hm => by
    simp only [powS, pwB, forceN_eq]
    apply rk1_pow h e k
    cases e.bit k
    · rw [cond_false, cond_false]; exact rk1_mul hm hm
    · rw [cond_true, cond_true]; exact rk1_mul (rk1_mul hm hm) h

theorem rk1_inv {x : F1} {n : Nat} (h : RK1 x n) : RK1 (iv1 x) (invN n) := by
  have h1 := rk1_pow h expInv 384 rk1_one
  rw [pwB_one exp_bits, ← iv1_pow] at h1
  exact h1

theorem foK_add {K : Type} [Rg K] {iv : K → K} (x y : K) : (foK iv).add x y = x + y := rfl
theorem foK_sub {K : Type} [Rg K] {iv : K → K} (x y : K) : (foK iv).sub x y = x - y := rfl
theorem foK_mul {K : Type} [Rg K] {iv : K → K} (x y : K) : (foK iv).mul x y = x * y := rfl
theorem foK_neg {K : Type} [Rg K] {iv : K → K} (x : K) : (foK iv).neg x = -x := rfl
theorem foK_inv {K : Type} [Rg K] {iv : K → K} (x : K) : (foK iv).inv x = iv x := rfl
theorem foK_zero {K : Type} [Rg K] {iv : K → K} : (foK iv).zero = (0 : K) := rfl

theorem relF : FRel RK1 (foK iv1) fN eq1 Nat.beq where
  add h k := by rw [foK_add, fN_add]; exact rk1_add h k
  sub h k := by rw [foK_sub, fN_sub]; exact rk1_sub h k
  mul h k := by rw [foK_mul, fN_mul]; exact rk1_mul h k
  neg h := by rw [foK_neg, fN_neg]; exact rk1_neg h
  inv h := by rw [foK_inv, fN_inv]; exact rk1_inv h
  zero := by rw [foK_zero]; exact rk1_zero
  eq h k := rk1_eq h k

theorem FRel.comp {A B C : Type} {R : A → B → Prop} {S : B → C → Prop} {o : FO A} {o' : FO B} {o'' : FO C} {e : A → A → Bool} {e' : B → B → Bool} {e'' : C → C → Bool} (h : FRel R o o' e e') (k : FRel S o' o'' e' e'') :
    FRel (fun a c => ∃ b, R a b ∧ S b c) o o'' e e'' where
  add := fun ⟨_, p1, p2⟩ ⟨_, q1, q2⟩ => ⟨_, h.add p1 q1, k.add p2 q2⟩
  sub := fun ⟨_, p1, p2⟩ ⟨_, q1, q2⟩ => ⟨_, h.sub p1 q1, k.sub p2 q2⟩
  mul := fun ⟨_, p1, p2⟩ ⟨_, q1, q2⟩ => ⟨_, h.mul p1 q1, k.mul p2 q2⟩
  neg := fun ⟨_, p1, p2⟩ => ⟨_, h.neg p1, k.neg p2⟩
  inv := fun ⟨_, p1, p2⟩ => ⟨_, h.inv p1, k.inv p2⟩
  zero := ⟨_, h.zero, k.zero⟩
  eq := fun ⟨_, p1, p2⟩ ⟨_, q1, q2⟩ => by rw [h.eq p1 q1, k.eq p2 q2]

/-- An element as the program keeps it. -/
def RM (x : F1) (w : W6) : Prop := ∃ n, RK1 x n ∧ Rep n w
/-- An element as it is told. -/
def RP (x : F1) (w : W6) : Prop := RV (p := pN) x w.val

theorem relM : FRel RM (foK iv1) fW eq1 eqW := relF.comp relW
theorem rm_one : RM 1 oneW := ⟨oneN, rk1_one, rep_one⟩
theorem rm_zero : RM 0 zeroW := ⟨0, rk1_zero, rep_zero⟩
theorem rp_lt {x : F1} {w : W6} (h : RP x w) : w.val < pN := RV.lt h
theorem rp_of {w : W6} (h : w.val < pN) : ∃ x, RP x w := ⟨(⟨w.val, h⟩ : Fin pN), RV.of h⟩
theorem rp_inj {x : F1} {v w : W6} (h : RP x v) (k : RP x w) : v = w := W6.val_inj (h.eq.trans k.eq.symm)
theorem rp_eq {x y : F1} {v w : W6} (h : RP x v) (k : RP y w) : eq1 x y = eqW v w := by
  have e : eq1 x y = Nat.beq v.val w.val := rv_eq (p := pN) h k
  rw [e, Bool.eq_iff_iff, Nat.beq_eq, eqW_iff]
  exact ⟨fun e => W6.val_inj e, fun e => by rw [e]⟩
theorem wide_one : wideN * rinvN * rinvN % pN = 1 := by decide +kernel
theorem rm_to {x : F1} {w : W6} (h : RP x w) : RM x (toW w) := ⟨toN w.val, rk_of_rv (p := pN) wide_one h, rep_to w⟩
theorem rp_from {x : F1} {w : W6} (h : RM x w) : RP x (fromW w) := by
  obtain ⟨n, h1, h2⟩ := h
  have h3 : RV (p := pN) x (backN n) := rv_of_rk h1
  rw [← rep_back h2] at h3
  exact h3
theorem rp_zero : RP 0 zeroW := ⟨by rw [zero_val]; exact (Nat.zero_mod pN).symm⟩
theorem rp_val {x : F1} {w : W6} {n : Nat} (h : RV (p := pN) x n) (e : w.val = n) : RP x w := by
  unfold RP
  rw [e]
  exact h
theorem rp_of_mul {x y : F1} {a b w : W6} (h : RP x a) (k : RP y b) (e : w.val = a.val * b.val % pN) : RP (x * y) w := rp_val (rv_mul (p := pN) h k) e
theorem rp_of_add {x y : F1} {a b w : W6} (h : RP x a) (k : RP y b) (e : w.val = (a.val + b.val) % pN) : RP (x + y) w := rp_val (rv_add (p := pN) h k) e
theorem rp_of_sub {x y : F1} {a b w : W6} (h : RP x a) (k : RP y b) (e : w.val = (a.val + (pN - b.val) % pN) % pN) : RP (x - y) w := rp_val (rv_sub (p := pN) h k) e
theorem rp_of_neg {x : F1} {a w : W6} (h : RP x a) (e : w.val = (pN - a.val) % pN) : RP (-x) w := rp_val (rv_neg (p := pN) h) e
theorem rp_of_one {w : W6} (e : w.val = 1) : RP 1 w := rp_val (n := 1) ⟨by decide +kernel⟩ e
end Go.Rq

/- Multiples: the program's points of three elements stand for the sums by the slope. -/
namespace Go.Rq
set_option synthInstance.maxSize 100000
set_option synthInstance.maxHeartbeats 400000

section
variable {K : Type} [Rg K] {iv : K → K} {e : K → K → Bool}

/-- A point of three elements that stands for a point. -/
inductive Jr : Jp K → Ap K → Prop
  | none {u : Jp K} (h : u.z = 0) : Jr u ⟨0, 0, true⟩
  | of {u : Jp K} {x y : K} (hz : u.z ≠ 0) (hx : u.x = x * (u.z * u.z)) (hy : u.y = y * (u.z * u.z * u.z)) : Jr u (pt x y)

theorem jl_x {x z i ux : K} (hi : z * i = 1) (h : ux = x * (z * z)) : ux * (i * i) = x := rg2 [x, z, i, ux] h (i * i) hi (x * (z * i + 1))
theorem jl_y {y z i uy : K} (hi : z * i = 1) (h : uy = y * (z * z * z)) : uy * (i * i * i) = y := rg2 [y, z, i, uy] h (i * i * i) hi (y * (z * i * (z * i) + z * i + 1))
theorem jr_low (F : Fd K iv e) {u : Jp K} {A : Ap K} (h : Jr u A) : lowerE (foK iv) e u = A := by
  unfold lowerE
  rw [show (foK iv).zero = (0 : K) from rfl]
  cases h with
  | none h => rw [F.eq.2 h]; rfl
  | of hz hx hy =>
    have hi := F.inv hz
    rw [F.ne hz, cond_false]
    exact Ap.ext3 (jl_x hi hx) (jl_y hi hy) rfl

theorem jt_x {x y z l : K} (hb : x * x + x * x + x * x = l * (y + y)) {ux uy : K} (hx : ux = x * (z * z)) (hy : uy = y * (z * z * z)) :
    (ux * ux + ux * ux + ux * ux) * (ux * ux + ux * ux + ux * ux) - (ux * (uy * uy) + ux * (uy * uy) + (ux * (uy * uy) + ux * (uy * uy)) + (ux * (uy * uy) + ux * (uy * uy) + (ux * (uy * uy) + ux * (uy * uy)))) = (l * l - x - x) * ((uy * z + uy * z) * (uy * z + uy * z)) := by
  subst hx hy
  have h1 : x * (z * z) * (x * (z * z)) + x * (z * z) * (x * (z * z)) + x * (z * z) * (x * (z * z)) = l * (y + y) * (z * z * z * z) := by rw [← hb]; exact rg [x, y, z]
  rw [h1]
  exact rg [x, y, z, l]

theorem jt_y {x y z l : K} (hb : x * x + x * x + x * x = l * (y + y)) {ux uy X : K} (hx : ux = x * (z * z)) (hy : uy = y * (z * z * z)) (hX : X = (l * l - x - x) * ((uy * z + uy * z) * (uy * z + uy * z))) :
    (ux * ux + ux * ux + ux * ux) * (ux * (uy * uy) + ux * (uy * uy) + (ux * (uy * uy) + ux * (uy * uy)) - X) - (uy * uy * (uy * uy) + uy * uy * (uy * uy) + (uy * uy * (uy * uy) + uy * uy * (uy * uy)) + (uy * uy * (uy * uy) + uy * uy * (uy * uy) + (uy * uy * (uy * uy) + uy * uy * (uy * uy)))) =
      (l * (x - (l * l - x - x)) - y) * ((uy * z + uy * z) * (uy * z + uy * z) * (uy * z + uy * z)) := by
  subst hx hy hX
  have h1 : x * (z * z) * (x * (z * z)) + x * (z * z) * (x * (z * z)) + x * (z * z) * (x * (z * z)) = l * (y + y) * (z * z * z * z) := by rw [← hb]; exact rg [x, y, z]
  rw [h1]
  exact rg [x, y, z, l]

theorem jr_twice (F : Fd K iv e) {b : K} (C : Cv F b) {u : Jp K} {A : Ap K} (h : Jr u A) (hA : Pt b A) : Jr (twiceJ (foK iv) u) (sumA iv e A A) := by
  cases h with
  | none h => exact .none (by rw [twice_z, h]; exact rg [u.y])
  | of hz hx hy =>
    rename_i x y
    have hon : On b x y := by
      generalize hg : pt x y = A at hA
      cases hA with
      | zero => cases hg
      | of h =>
        have := Ap.mk.inj hg
        obtain ⟨rfl, rfl, -⟩ := this
        exact h
    have hy0 := C.y hon
    have hn : ¬ (x = x ∧ y = -y) := fun h => hy0 (F.two (by have := h.2; exact rg1 [y] this 1))
    obtain ⟨l, hl⟩ := slope_ex F hon hon hn
    rw [sum_by F hon hon hn hl]
    have hx' := jt_x hl.b hx hy
    have hy' := jt_y hl.b hx hy hx'
    refine .of ?_ hx' hy'
    rw [twice_z, hy]
    intro h0
    have h1 := F.two h0
    exact F.ne_mul (F.ne_mul hy0 (F.ne_mul (F.ne_mul hz hz) hz)) hz h1

theorem js_h {x1 x2 z1 z2 : K} {u v : K} (hu : u = x1 * (z1 * z1)) (hv : v = x2 * (z2 * z2)) : v * (z1 * z1) - u * (z2 * z2) = (x2 - x1) * ((z1 * z1) * (z2 * z2)) := by subst hu hv; exact rg [x1, x2, z1, z2]
theorem js_r {y1 y2 z1 z2 : K} {u v : K} (hu : u = y1 * (z1 * z1 * z1)) (hv : v = y2 * (z2 * z2 * z2)) : v * ((z1 * z1) * z1) - u * ((z2 * z2) * z2) = (y2 - y1) * ((z1 * z1 * z1) * (z2 * z2 * z2)) := by subst hu hv; exact rg [y1, y2, z1, z2]

theorem js_x {x1 x2 y1 y2 z1 z2 l h r w3 u : K} (hh : h = (x2 - x1) * ((z1 * z1) * (z2 * z2))) (hr : r = (y2 - y1) * ((z1 * z1 * z1) * (z2 * z2 * z2))) (ha : y1 - y2 = l * (x1 - x2)) (hu : u = x1 * (z1 * z1) * (z2 * z2)) (hw : w3 = h * (z1 * z2)) :
    (r * r - h * h * h) - (u * (h * h) + u * (h * h)) = (l * l - x1 - x2) * (w3 * w3) := by
  have h1 : r = l * w3 := by
    subst hr hw hh
    have : y2 - y1 = l * (x2 - x1) := rg1 [x1, x2, y1, y2, l] ha (-1)
    rw [this]
    exact rg [x1, x2, z1, z2, l]
  subst h1 hu
  have h2 : h * h * h = (x2 - x1) * (w3 * w3) := by subst hw hh; exact rg [x1, x2, z1, z2]
  have h3 : x1 * (z1 * z1) * (z2 * z2) * (h * h) = x1 * (w3 * w3) := by subst hw; exact rg [x1, z1, z2, h]
  rw [h2, h3]
  exact rg [x1, x2, l, w3]
theorem js_y {x1 x2 y1 y2 z1 z2 l h r w3 u s X : K} (hh : h = (x2 - x1) * ((z1 * z1) * (z2 * z2))) (hr : r = (y2 - y1) * ((z1 * z1 * z1) * (z2 * z2 * z2))) (ha : y1 - y2 = l * (x1 - x2)) (hu : u = x1 * (z1 * z1) * (z2 * z2)) (hs : s = y1 * (z1 * z1 * z1) * (z2 * z2 * z2)) (hw : w3 = h * (z1 * z2))
    (hX : X = (l * l - x1 - x2) * (w3 * w3)) : r * (u * (h * h) - X) - s * (h * h * h) = (l * (x1 - (l * l - x1 - x2)) - y1) * (w3 * w3 * w3) := by
  have h1 : r = l * w3 := by
    subst hr hw hh
    have : y2 - y1 = l * (x2 - x1) := rg1 [x1, x2, y1, y2, l] ha (-1)
    rw [this]
    exact rg [x1, x2, z1, z2, l]
  have h3 : u * (h * h) = x1 * (w3 * w3) := by subst hw hu; exact rg [x1, z1, z2, h]
  have h4 : s * (h * h * h) = y1 * (w3 * w3 * w3) := by subst hw hs; exact rg [y1, z1, z2, h]
  rw [h1, h3, h4, hX]
  exact rg [x1, x2, y1, l, w3]

theorem jr_sum (F : Fd K iv e) {b : K} (C : Cv F b) (f : Fl K) {u v : Jp K} {A B : Ap K} (h : Jr u A) (k : Jr v B) (hA : Pt b A) (hB : Pt b B) : Jr (sumE (foK iv) e f u v) (sumA iv e A B) := by
  have z0 : (foK iv).zero = (0 : K) := rfl
  cases h with
  | none h =>
    unfold sumE
    rw [z0, F.eq.2 h, cond_true]
    exact k
  | of hz hx hy =>
    rename_i x1 y1
    have pt_of : ∀ {x y : K}, Pt b (pt x y) → On b x y := fun {x y} hA => by
      generalize hg : pt x y = A at hA
      cases hA with
      | zero => cases hg
      | of h =>
        have := Ap.mk.inj hg
        obtain ⟨rfl, rfl, -⟩ := this
        exact h
    cases k with
    | none k =>
      unfold sumE
      rw [z0, F.ne hz, F.eq.2 k, cond_false, cond_true, sum_zero_r _ (fun h => by cases h)]
      exact .of hz hx hy
    | of kz kx ky =>
      rename_i x2 y2
      have hj : hJ (foK iv) u v = (x2 - x1) * ((u.z * u.z) * (v.z * v.z)) := js_h hx kx
      have rj : rJ (foK iv) u v = (y2 - y1) * ((u.z * u.z * u.z) * (v.z * v.z * v.z)) := js_r hy ky
      have hzz := F.ne_mul (F.ne_mul hz hz) (F.ne_mul kz kz)
      have hzzz := F.ne_mul (F.ne_mul (F.ne_mul hz hz) hz) (F.ne_mul (F.ne_mul kz kz) kz)
      have g1 := pt_of hA
      have g2 := pt_of hB
      have se : sumE (foK iv) e f u v = bif e (hJ (foK iv) u v) 0 then (bif e (rJ (foK iv) u v) 0 then twiceJ (foK iv) u else ⟨f.one, f.one, 0⟩) else sumJ (foK iv) u v := by
        unfold sumE
        rw [z0, F.ne hz, F.ne kz]
        rfl
      rw [se]
      by_cases hx12 : x1 = x2
      · subst hx12
        rw [F.eq.2 (show hJ (foK iv) u v = 0 by rw [hj]; exact rg [x1, u.z, v.z]), cond_true]
        by_cases hy12 : y1 = y2
        · subst hy12
          rw [F.eq.2 (show rJ (foK iv) u v = 0 by rw [rj]; exact rg [y1, u.z, v.z]), cond_true]
          exact jr_twice F C (.of hz hx hy) hA
        · rw [F.ne (show rJ (foK iv) u v ≠ 0 by rw [rj]; exact F.ne_mul (fun h => hy12 (sub_zero_eq h).symm) hzzz), cond_false]
          have : y1 = -y2 := by
            unfold On at g1 g2
            have hs : (y1 - y2) * (y1 + y2) = 0 := rg2 [x1, y1, y2, b] g1 1 g2 (-1)
            rcases F.zero_or hs with h | h
            · exact absurd (sub_zero_eq h) hy12
            · exact rg1 [y1, y2] h 1
          subst this
          have e1 := sum_opp F (x := x1) (y := -y2)
          rw [show - -y2 = y2 from rg_neg_neg y2] at e1
          rw [e1]
          exact .none rfl
      · have hh : hJ (foK iv) u v ≠ 0 := by
          rw [hj]
          exact F.ne_mul (fun h => hx12 (sub_zero_eq h).symm) hzz
        rw [F.ne hh, cond_false]
        have hn : ¬ (x1 = x2 ∧ y1 = -y2) := fun h => hx12 h.1
        obtain ⟨l, hl⟩ := slope_ex F g1 g2 hn
        rw [sum_by F g1 g2 hn hl]
        have hu : u.x * (v.z * v.z) = x1 * (u.z * u.z) * (v.z * v.z) := by rw [hx]
        have hs : u.y * (v.z * v.z * v.z) = y1 * (u.z * u.z * u.z) * (v.z * v.z * v.z) := by rw [hy]
        have X := js_x hj rj hl.a hu (w3 := hJ (foK iv) u v * (u.z * v.z)) rfl
        have Y := js_y hj rj hl.a hu hs (w3 := hJ (foK iv) u v * (u.z * v.z)) rfl X
        exact .of (F.ne_mul hh (F.ne_mul hz kz)) X Y

/-! Multiples. -/
def nsm (iv : K → K) (e : K → K → Bool) (A : Ap K) : Nat → Ap K
  | 0 => ⟨0, 0, true⟩
  | n + 1 => sumA iv e (nsm iv e A n) A

theorem nsm_pt (F : Fd K iv e) {b : K} {A : Ap K} (hA : Pt b A) : ∀ n : Nat, Pt b (nsm iv e A n)
  | 0 => .zero
  | n + 1 => sum_pt F (nsm_pt F hA n) hA

theorem nsm_add (F : Fd K iv e) {b : K} (C : Cv F b) {A : Ap K} (hA : Pt b A) (m : Nat) : ∀ n : Nat, nsm iv e A (m + n) = sumA iv e (nsm iv e A m) (nsm iv e A n)
  | 0 => (nsm_pt F hA m).add0.symm
  | n + 1 => by
    show sumA iv e (nsm iv e A (m + n)) A = sumA iv e (nsm iv e A m) (sumA iv e (nsm iv e A n) A)
    rw [nsm_add F C hA m n, sum_assoc F C (nsm_pt F hA m) (nsm_pt F hA n) hA]

theorem nsm_mul (F : Fd K iv e) {b : K} (C : Cv F b) {A : Ap K} (hA : Pt b A) (m : Nat) : ∀ n : Nat, nsm iv e A (m * n) = nsm iv e (nsm iv e A m) n
  | 0 => rfl
  | n + 1 => by
    show nsm iv e A (m * n + m) = sumA iv e (nsm iv e (nsm iv e A m) n) (nsm iv e A m)
    rw [nsm_add F C hA, nsm_mul F C hA m n]

theorem nsm_zero (n : Nat) : nsm iv e (⟨0, 0, true⟩ : Ap K) n = ⟨0, 0, true⟩ := by
  induction n with
  | zero => rfl
  | succ n ih =>
    show sumA iv e (nsm iv e (⟨0, 0, true⟩ : Ap K) n) ⟨0, 0, true⟩ = _
    rw [ih]; rfl
end
end Go.Rq
