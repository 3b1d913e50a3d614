/- The product of two elements, as a number. -/
import Derived.Test.YtdbcjiggimppdaaRq08
import Derived.Test.YtdbcjiggimppdaaRq06
namespace Go.Rq
open Go

theorem round_sum {p0 t0 r0 c0 p1 t1 r1 c1 p2 t2 r2 c2 p3 t3 r3 c3 p4 t4 r4 c4 p5 t5 r5 c5 q k0 k6 s6 s1 k1 s2 k2 s3 k3 s4 k4 s5 k5 : Nat} (e0 : r0 + 18446744073709551616 * c0 = p0 + t0) (e1 : r1 + 18446744073709551616 * c1 = p1 + t1 + c0) (e2 : r2 + 18446744073709551616 * c2 = p2 + t2 + c1) (e3 : r3 + 18446744073709551616 * c3 = p3 + t3 + c2) (e4 : r4 + 18446744073709551616 * c4 = p4 + t4 + c3) (e5 : r5 + 18446744073709551616 * c5 = p5 + t5 + c4) (f0 : 18446744073709551616 * k0 = q * 13402431016077863595 + r0) (f1 : s1 + 18446744073709551616 * k1 = q * 2210141511517208575 + r1 + k0) (f2 : s2 + 18446744073709551616 * k2 = q * 7435674573564081700 + r2 + k1) (f3 : s3 + 18446744073709551616 * k3 = q * 7239337960414712511 + r3 + k2) (f4 : s4 + 18446744073709551616 * k4 = q * 5412103778470702295 + r4 + k3) (f5 : s5 + 18446744073709551616 * k5 = q * 1873798617647539866 + r5 + k4) (f6 : s6 + 18446744073709551616 * k6 = c5 + k5) :
    18446744073709551616 * (s1 + 18446744073709551616 * s2 + 340282366920938463463374607431768211456 * s3 + 6277101735386680763835789423207666416102355444464034512896 * s4 + 115792089237316195423570985008687907853269984665640564039457584007913129639936 * s5 + 2135987035920910082395021706169552114602704522356652769947041607822219725780640550022962086936576 * s6) + 726838724295606890549323807888004534353641360687318060281490199180639288113397923326191050713763565560762521606266177933534601628614656 * k6 = (p0 + 18446744073709551616 * p1 + 340282366920938463463374607431768211456 * p2 + 6277101735386680763835789423207666416102355444464034512896 * p3 + 115792089237316195423570985008687907853269984665640564039457584007913129639936 * p4 + 2135987035920910082395021706169552114602704522356652769947041607822219725780640550022962086936576 * p5) + (t0 + 18446744073709551616 * t1 + 340282366920938463463374607431768211456 * t2 + 6277101735386680763835789423207666416102355444464034512896 * t3 + 115792089237316195423570985008687907853269984665640564039457584007913129639936 * t4 + 2135987035920910082395021706169552114602704522356652769947041607822219725780640550022962086936576 * t5) + q * 4002409555221667393417789825735904156556882819939007885332058136124031650490837864442687629129015664037894272559787 := by
  omega

theorem val_mul (x : Nat) (a : W6) : x * a.val = (x * a.w0.toNat) + 18446744073709551616 * (x * a.w1.toNat) + 340282366920938463463374607431768211456 * (x * a.w2.toNat) + 6277101735386680763835789423207666416102355444464034512896 * (x * a.w3.toNat) + 115792089237316195423570985008687907853269984665640564039457584007913129639936 * (x * a.w4.toNat) + 2135987035920910082395021706169552114602704522356652769947041607822219725780640550022962086936576 * (x * a.w5.toNat) := by
  simp only [W6.val, Nat.mul_add, Nat.mul_left_comm x]

theorem neg_inv (r : BitVec 64) : (r * 9940570264628428797#64 * primeW.w0).toNat = (r.toNat * 18446744073709551615) % 18446744073709551616 := by
  rw [BitVec.mul_assoc, BitVec.toNat_mul]
  rfl

theorem low_zero (r : BitVec 64) : (mul64 (r * 9940570264628428797#64) primeW.w0).2 + r + bitW false = 0#64 := by
  apply BitVec.eq_of_toNat_eq
  show (r * 9940570264628428797#64 * primeW.w0 + r + bitW false).toNat = 0
  have hr := r.isLt
  rw [BitVec.toNat_add, BitVec.toNat_add, neg_inv, bitW_nat]
  show ((r.toNat * 18446744073709551615 % 18446744073709551616 + r.toNat) % 18446744073709551616 + 0) % 18446744073709551616 = 0
  omega

theorem p_words : primeW.w0.toNat = 13402431016077863595 ∧ primeW.w1.toNat = 2210141511517208575 ∧ primeW.w2.toNat = 7435674573564081700 ∧ primeW.w3.toNat = 7239337960414712511 ∧ primeW.w4.toNat = 5412103778470702295 ∧ primeW.w5.toNat = 1873798617647539866 := by decide +kernel

theorem mulRound_eq {a : W6} {x : BitVec 64} {t : W7} {r0 r1 r2 r3 r4 r5 s1 s2 s3 s4 s5 m : BitVec 64 × BitVec 64} {s0 s6 : BitVec 64 × Bool} {q k0 : BitVec 64}
    (hr0 : mac x a.w0 t.l.w0 (bitW false) = r0) (hr1 : mac x a.w1 t.l.w1 r0.2 = r1) (hr2 : mac x a.w2 t.l.w2 r1.2 = r2) (hr3 : mac x a.w3 t.l.w3 r2.2 = r3) (hr4 : mac x a.w4 t.l.w4 r3.2 = r4) (hr5 : mac x a.w5 t.l.w5 r4.2 = r5)
    (hq : r0.1 * 9940570264628428797#64 = q) (hm : mul64 q primeW.w0 = m) (hs0 : add64 m.2 r0.1 false = s0) (hk : m.1 + bitW s0.2 = k0)
    (hs1 : mac q primeW.w1 r1.1 k0 = s1) (hs2 : mac q primeW.w2 r2.1 s1.2 = s2) (hs3 : mac q primeW.w3 r3.1 s2.2 = s3) (hs4 : mac q primeW.w4 r4.1 s3.2 = s4) (hs5 : mac q primeW.w5 r5.1 s4.2 = s5) (hs6 : add64 (t.w6 + r5.2) s5.2 false = s6) :
    mulRound a x t = ⟨⟨s1.1, s2.1, s3.1, s4.1, s5.1, s6.1⟩, bitW s6.2⟩ := by
  subst hr0 hr1 hr2 hr3 hr4 hr5 hq hm hs0 hk hs1 hs2 hs3 hs4 hs5 hs6
  rfl

theorem carry_first {q r m1 m2 : Nat} {c : Nat} (hc : c ≤ 1) (hq : q < 18446744073709551616) (hm : m2 + 18446744073709551616 * m1 = q * 13402431016077863595) (hs : 18446744073709551616 * c = m2 + r) : m1 + c < 18446744073709551616 ∧ 18446744073709551616 * (m1 + c) = q * 13402431016077863595 + r := by
  omega

theorem round_end {xA A T q v k : Nat} (ha : A < 4002409555221667393417789825735904156556882819939007885332058136124031650490837864442687629129015664037894272559787) (ht : T < A + 4002409555221667393417789825735904156556882819939007885332058136124031650490837864442687629129015664037894272559787) (hx : xA ≤ 18446744073709551615 * A) (hq : q < 18446744073709551616) (hs : 18446744073709551616 * v + 726838724295606890549323807888004534353641360687318060281490199180639288113397923326191050713763565560762521606266177933534601628614656 * k = xA + T + q * 4002409555221667393417789825735904156556882819939007885332058136124031650490837864442687629129015664037894272559787) : k = 0 ∧ v < A + 4002409555221667393417789825735904156556882819939007885332058136124031650490837864442687629129015664037894272559787 ∧ 18446744073709551616 * v = xA + T + q * 4002409555221667393417789825735904156556882819939007885332058136124031650490837864442687629129015664037894272559787 := by
  have hk : k = 0 := by omega
  subst hk
  omega

theorem round_nat (a : W6) (x : BitVec 64) (t : W7) (hw : t.w6 = 0#64) (ha : a.val < pN) (ht : t.l.val < a.val + pN) :
    ∃ q : Nat, (mulRound a x t).w6 = 0#64 ∧ (mulRound a x t).l.val < a.val + pN ∧ 18446744073709551616 * (mulRound a x t).l.val = x.toNat * a.val + t.l.val + q * pN := by
  obtain ⟨g0, g1, g2, g3, g4, g5⟩ := p_words
  obtain ⟨r0, hr0⟩ : ∃ r, mac x a.w0 t.l.w0 (bitW false) = r := ⟨_, rfl⟩
  obtain ⟨r1, hr1⟩ : ∃ r, mac x a.w1 t.l.w1 r0.2 = r := ⟨_, rfl⟩
  obtain ⟨r2, hr2⟩ : ∃ r, mac x a.w2 t.l.w2 r1.2 = r := ⟨_, rfl⟩
  obtain ⟨r3, hr3⟩ : ∃ r, mac x a.w3 t.l.w3 r2.2 = r := ⟨_, rfl⟩
  obtain ⟨r4, hr4⟩ : ∃ r, mac x a.w4 t.l.w4 r3.2 = r := ⟨_, rfl⟩
  obtain ⟨r5, hr5⟩ : ∃ r, mac x a.w5 t.l.w5 r4.2 = r := ⟨_, rfl⟩
  obtain ⟨q, hq⟩ : ∃ q, r0.1 * 9940570264628428797#64 = q := ⟨_, rfl⟩
  obtain ⟨m, hm⟩ : ∃ m, mul64 q primeW.w0 = m := ⟨_, rfl⟩
  obtain ⟨s0, hs0⟩ : ∃ s, add64 m.2 r0.1 false = s := ⟨_, rfl⟩
  obtain ⟨k0, hk⟩ : ∃ k, m.1 + bitW s0.2 = k := ⟨_, rfl⟩
  obtain ⟨s1, hs1⟩ : ∃ s, mac q primeW.w1 r1.1 k0 = s := ⟨_, rfl⟩
  obtain ⟨s2, hs2⟩ : ∃ s, mac q primeW.w2 r2.1 s1.2 = s := ⟨_, rfl⟩
  obtain ⟨s3, hs3⟩ : ∃ s, mac q primeW.w3 r3.1 s2.2 = s := ⟨_, rfl⟩
  obtain ⟨s4, hs4⟩ : ∃ s, mac q primeW.w4 r4.1 s3.2 = s := ⟨_, rfl⟩
  obtain ⟨s5, hs5⟩ : ∃ s, mac q primeW.w5 r5.1 s4.2 = s := ⟨_, rfl⟩
  obtain ⟨s6, hs6⟩ : ∃ s, add64 (t.w6 + r5.2) s5.2 false = s := ⟨_, rfl⟩
  have hres := mulRound_eq hr0 hr1 hr2 hr3 hr4 hr5 hq hm hs0 hk hs1 hs2 hs3 hs4 hs5 hs6
  have e0 := mac_nat x a.w0 t.l.w0 (bitW false)
  rw [hr0, show (bitW false).toNat = 0 from rfl, Nat.add_zero] at e0
  have e1 := mac_nat x a.w1 t.l.w1 r0.2
  rw [hr1] at e1
  have e2 := mac_nat x a.w2 t.l.w2 r1.2
  rw [hr2] at e2
  have e3 := mac_nat x a.w3 t.l.w3 r2.2
  rw [hr3] at e3
  have e4 := mac_nat x a.w4 t.l.w4 r3.2
  rw [hr4] at e4
  have e5 := mac_nat x a.w5 t.l.w5 r4.2
  rw [hr5] at e5
  have lz := low_zero r0.1
  rw [hq, hm] at lz
  have m0 := mul64_nat q primeW.w0
  rw [hm, g0] at m0
  have z0 := add64_nat m.2 r0.1 false
  rw [show (add64 m.2 r0.1 false).1 = 0#64 from lz, hs0, show b2n false = 0 from rfl, show (0#64).toNat = 0 from rfl, Nat.add_zero, Nat.zero_add] at z0
  obtain ⟨c1, c2⟩ := carry_first (b2n_le s0.2) q.isLt m0 z0
  have hk0 : k0.toNat = m.1.toNat + b2n s0.2 := by
    rw [← hk, BitVec.toNat_add, bitW_nat]
    exact Nat.mod_eq_of_lt c1
  rw [← hk0] at c2
  have f1 := mac_nat q primeW.w1 r1.1 k0
  rw [hs1, g1] at f1
  have f2 := mac_nat q primeW.w2 r2.1 s1.2
  rw [hs2, g2] at f2
  have f3 := mac_nat q primeW.w3 r3.1 s2.2
  rw [hs3, g3] at f3
  have f4 := mac_nat q primeW.w4 r4.1 s3.2
  rw [hs4, g4] at f4
  have f5 := mac_nat q primeW.w5 r5.1 s4.2
  rw [hs5, g5] at f5
  have f6 := add64_nat (t.w6 + r5.2) s5.2 false
  rw [hs6, show (t.w6 + r5.2) = r5.2 by rw [hw, BitVec.zero_add], show b2n false = 0 from rfl, Nat.add_zero] at f6
  have sum := round_sum e0 e1 e2 e3 e4 e5 c2 f1 f2 f3 f4 f5 f6
  have xA : x.toNat * a.val ≤ 18446744073709551615 * a.val := Nat.mul_le_mul_right _ (Nat.le_of_lt_succ x.isLt)
  rw [← val_mul x.toNat a] at sum
  obtain ⟨n1, n2, n3⟩ := round_end (v := (W6.mk s1.1 s2.1 s3.1 s4.1 s5.1 s6.1).val) (T := t.l.val) ha ht xA q.isLt sum
  refine ⟨q.toNat, ?_, ?_, ?_⟩
  · rw [hres]
    show bitW s6.2 = 0#64
    cases hh : s6.2 with
    | false => rfl
    | true => rw [hh] at n1; cases n1
  · rw [hres]; exact n2
  · rw [hres]; exact n3


def rinvN : Nat := 3231460744492646417066832100176244795738767926513225105051837195607029917124509527734802654356338138714468589979680
/-- The product of two elements. -/
def mulN (a b : Nat) : Nat := a * b * rinvN % pN

theorem raw_sum {x1 q1 v1 x2 q2 v2 x3 q3 v3 x4 q4 v4 x5 q5 v5 x6 q6 v6 : Nat} (h1 : 18446744073709551616 * v1 = x1 + q1 * 4002409555221667393417789825735904156556882819939007885332058136124031650490837864442687629129015664037894272559787) (h2 : 18446744073709551616 * v2 = x2 + v1 + q2 * 4002409555221667393417789825735904156556882819939007885332058136124031650490837864442687629129015664037894272559787) (h3 : 18446744073709551616 * v3 = x3 + v2 + q3 * 4002409555221667393417789825735904156556882819939007885332058136124031650490837864442687629129015664037894272559787) (h4 : 18446744073709551616 * v4 = x4 + v3 + q4 * 4002409555221667393417789825735904156556882819939007885332058136124031650490837864442687629129015664037894272559787) (h5 : 18446744073709551616 * v5 = x5 + v4 + q5 * 4002409555221667393417789825735904156556882819939007885332058136124031650490837864442687629129015664037894272559787) (h6 : 18446744073709551616 * v6 = x6 + v5 + q6 * 4002409555221667393417789825735904156556882819939007885332058136124031650490837864442687629129015664037894272559787) :
    39402006196394479212279040100143613805079739270465446667948293404245721771497210611414266254884915640806627990306816 * v6 = (x1 + 18446744073709551616 * x2 + 340282366920938463463374607431768211456 * x3 + 6277101735386680763835789423207666416102355444464034512896 * x4 + 115792089237316195423570985008687907853269984665640564039457584007913129639936 * x5 + 2135987035920910082395021706169552114602704522356652769947041607822219725780640550022962086936576 * x6) + (q1 + 18446744073709551616 * q2 + 340282366920938463463374607431768211456 * q3 + 6277101735386680763835789423207666416102355444464034512896 * q4 + 115792089237316195423570985008687907853269984665640564039457584007913129639936 * q5 + 2135987035920910082395021706169552114602704522356652769947041607822219725780640550022962086936576 * q6) * 4002409555221667393417789825735904156556882819939007885332058136124031650490837864442687629129015664037894272559787 := by
  omega

theorem mulRaw_nat (a b : W6) (ha : a.val < pN) : (mulRaw a b).l.val < a.val + pN ∧ ∃ Q, 39402006196394479212279040100143613805079739270465446667948293404245721771497210611414266254884915640806627990306816 * (mulRaw a b).l.val = b.val * a.val + Q * pN := by
  have z0 : zero7.w6 = 0#64 := rfl
  have zv : zero7.l.val = 0 := rfl
  have hp : pN = 4002409555221667393417789825735904156556882819939007885332058136124031650490837864442687629129015664037894272559787 := rfl
  unfold mulRaw
  obtain ⟨q1, w1, l1, h1⟩ := round_nat a b.w0 zero7 z0 ha (by rw [zv]; exact Nat.lt_of_lt_of_le (by decide +kernel : 0 < pN) (Nat.le_add_left _ _))
  generalize mulRound a b.w0 zero7 = t1 at w1 l1 h1 ⊢
  obtain ⟨q2, w2, l2, h2⟩ := round_nat a b.w1 t1 w1 ha l1
  generalize mulRound a b.w1 t1 = t2 at w2 l2 h2 ⊢
  obtain ⟨q3, w3, l3, h3⟩ := round_nat a b.w2 t2 w2 ha l2
  generalize mulRound a b.w2 t2 = t3 at w3 l3 h3 ⊢
  obtain ⟨q4, w4, l4, h4⟩ := round_nat a b.w3 t3 w3 ha l3
  generalize mulRound a b.w3 t3 = t4 at w4 l4 h4 ⊢
  obtain ⟨q5, w5, l5, h5⟩ := round_nat a b.w4 t4 w4 ha l4
  generalize mulRound a b.w4 t4 = t5 at w5 l5 h5 ⊢
  obtain ⟨q6, w6, l6, h6⟩ := round_nat a b.w5 t5 w5 ha l5
  generalize mulRound a b.w5 t5 = t6 at w6 l6 h6 ⊢
  refine ⟨l6, q1 + 18446744073709551616 * q2 + 340282366920938463463374607431768211456 * q3 + 6277101735386680763835789423207666416102355444464034512896 * q4 + 115792089237316195423570985008687907853269984665640564039457584007913129639936 * q5 + 2135987035920910082395021706169552114602704522356652769947041607822219725780640550022962086936576 * q6, ?_⟩
  rw [zv, Nat.add_zero] at h1
  rw [hp] at h1 h2 h3 h4 h5 h6 ⊢
  have hb : b.val * a.val = (b.w0.toNat * a.val) + 18446744073709551616 * (b.w1.toNat * a.val) + 340282366920938463463374607431768211456 * (b.w2.toNat * a.val) + 6277101735386680763835789423207666416102355444464034512896 * (b.w3.toNat * a.val) + 115792089237316195423570985008687907853269984665640564039457584007913129639936 * (b.w4.toNat * a.val) + 2135987035920910082395021706169552114602704522356652769947041607822219725780640550022962086936576 * (b.w5.toNat * a.val) := by
    rw [Nat.mul_comm, val_mul]
    simp only [Nat.mul_comm a.val]
  rw [hb]
  exact raw_sum h1 h2 h3 h4 h5 h6


theorem rinv_ok : 39402006196394479212279040100143613805079739270465446667948293404245721771497210611414266254884915640806627990306816 * rinvN % pN = 1 := by decide +kernel

/-- The product is the number's product with 2^-384. -/
theorem mulW_nat (a b : W6) (ha : a.val < pN) : (mulW a b).val = mulN a.val b.val := by
  obtain ⟨h1, Q, h2⟩ := mulRaw_nat a b ha
  have hm : mulW a b = lessW (mulRaw a b).l := rfl
  rw [hm]
  generalize (mulRaw a b).l = M at h1 h2 ⊢
  have h3 := lessW_nat M (Nat.lt_of_lt_of_le h1 (by rw [Nat.two_mul]; exact Nat.add_le_add_right (Nat.le_of_lt ha) _))
  have hp0 : 0 < pN := by decide +kernel
  have hq : M.val < 2 * pN := Nat.lt_of_lt_of_le h1 (by rw [Nat.two_mul]; exact Nat.add_le_add_right (Nat.le_of_lt ha) _)
  generalize M.val = m at h1 h2 h3 hq ⊢
  have hv : (lessW M).val < pN ∧ (lessW M).val % pN = m % pN := by
    rw [h3]
    split
    · exact ⟨by assumption, rfl⟩
    · rename_i hn
      generalize pN = p at hn hq hp0 ⊢
      refine ⟨by omega, ?_⟩
      rw [← Nat.mod_eq_sub_mod (by omega)]
  have h4 : 39402006196394479212279040100143613805079739270465446667948293404245721771497210611414266254884915640806627990306816 * m % pN = a.val * b.val % pN := by
    rw [h2, Nat.add_mul_mod_self_right, Nat.mul_comm]
  have h5 : m % pN = mulN a.val b.val := by
    unfold mulN
    have : m * (39402006196394479212279040100143613805079739270465446667948293404245721771497210611414266254884915640806627990306816 * rinvN) % pN = m % pN := by
      rw [Nat.mul_mod, rinv_ok, Nat.mul_one, Nat.mod_mod]
    rw [← this]
    rw [show m * (39402006196394479212279040100143613805079739270465446667948293404245721771497210611414266254884915640806627990306816 * rinvN) = 39402006196394479212279040100143613805079739270465446667948293404245721771497210611414266254884915640806627990306816 * m * rinvN by rw [← Nat.mul_assoc, Nat.mul_comm m]]
    rw [Nat.mul_mod, h4, ← Nat.mul_mod]
  rw [← h5, ← hv.2, Nat.mod_eq_of_lt hv.1]

theorem mulN_lt (a b : Nat) : mulN a b < pN := Nat.mod_lt _ (by decide +kernel)
end Go.Rq

/- The curves' formulas go alike over fields that go alike; the two fields as numbers. -/
namespace Go.Rq
open Go

/-- Two fields' operations that go alike. -/
structure FRel {A B : Type} (R : A → B → Prop) (o : FO A) (o' : FO B) (e : A → A → Bool) (e' : B → B → Bool) : Prop where
  add : ∀ {a b c d}, R a b → R c d → R (o.add a c) (o'.add b d)
  sub : ∀ {a b c d}, R a b → R c d → R (o.sub a c) (o'.sub b d)
  mul : ∀ {a b c d}, R a b → R c d → R (o.mul a c) (o'.mul b d)
  neg : ∀ {a b}, R a b → R (o.neg a) (o'.neg b)
  inv : ∀ {a b}, R a b → R (o.inv a) (o'.inv b)
  zero : R o.zero o'.zero
  eq : ∀ {a b c d}, R a b → R c d → e a c = e' b d

section
variable {A B : Type} {R : A → B → Prop} {o : FO A} {o' : FO B} {e : A → A → Bool} {e' : B → B → Bool}

structure RJ (R : A → B → Prop) (p : Jp A) (q : Jp B) : Prop where
  x : R p.x q.x
  y : R p.y q.y
  z : R p.z q.z

structure RA (R : A → B → Prop) (p : Ap A) (q : Ap B) : Prop where
  x : R p.x q.x
  y : R p.y q.y
  z : p.zero = q.zero

structure RFl (R : A → B → Prop) (f : Fl A) (g : Fl B) : Prop where
  one : R f.one g.one
  b : R f.b g.b

theorem raise_rel (h : FRel R o o' e e') {f : Fl A} {g : Fl B} (hf : RFl R f g) {p : Ap A} {q : Ap B} (hp : RA R p q) : RJ R (raiseJ o f p) (raiseJ o' g q) := by
  unfold raiseJ
  rw [hp.z]
  cases q.zero
  · exact ⟨hp.x, hp.y, hf.one⟩
  · exact ⟨hf.one, hf.one, h.zero⟩

theorem twice_rel (h : FRel R o o' e e') {p : Jp A} {q : Jp B} (hp : RJ R p q) : RJ R (twiceJ o p) (twiceJ o' q) := by
  have yy := h.mul hp.y hp.y
  have s1 := h.mul hp.x yy
  have s2 := h.add s1 s1
  have s := h.add s2 s2
  have m1 := h.mul hp.x hp.x
  have m := h.add (h.add m1 m1) m1
  have x := h.sub (h.mul m m) (h.add s s)
  have e0 := h.mul yy yy
  have e1 := h.add e0 e0
  have e2 := h.add e1 e1
  have e3 := h.add e2 e2
  have z := h.mul hp.y hp.z
  exact ⟨x, h.sub (h.mul m (h.sub s x)) e3, h.add z z⟩

theorem lowerJ_rel (h : FRel R o o' e e') {p : Jp A} {q : Jp B} (hp : RJ R p q) : RA R (lowerJ o p) (lowerJ o' q) := by
  have i := h.inv hp.z
  have s := h.mul i i
  exact ⟨h.mul hp.x s, h.mul hp.y (h.mul s i), rfl⟩

theorem lower_rel (h : FRel R o o' e e') {p : Jp A} {q : Jp B} (hp : RJ R p q) : RA R (lowerE o e p) (lowerE o' e' q) := by
  unfold lowerE
  rw [h.eq hp.z h.zero]
  cases e' q.z o'.zero
  · exact lowerJ_rel h hp
  · exact ⟨h.zero, h.zero, rfl⟩

theorem neg_rel (h : FRel R o o' e e') {p : Ap A} {q : Ap B} (hp : RA R p q) : RA R (negE o p) (negE o' q) := ⟨hp.x, h.sub h.zero hp.y, hp.z⟩

theorem on_rel (h : FRel R o o' e e') {f : Fl A} {g : Fl B} (hf : RFl R f g) {p : Ap A} {q : Ap B} (hp : RA R p q) : onE o e f p = onE o' e' g q := by
  unfold onE
  rw [hp.z, h.eq hp.x h.zero, h.eq hp.y h.zero, h.eq (h.mul hp.y hp.y) (h.add (h.mul (h.mul hp.x hp.x) hp.x) hf.b)]

theorem hJ_rel (h : FRel R o o' e e') {p q : Jp A} {p' q' : Jp B} (hp : RJ R p p') (hq : RJ R q q') : R (hJ o p q) (hJ o' p' q') :=
  h.sub (h.mul hq.x (h.mul hp.z hp.z)) (h.mul hp.x (h.mul hq.z hq.z))

theorem rJ_rel (h : FRel R o o' e e') {p q : Jp A} {p' q' : Jp B} (hp : RJ R p p') (hq : RJ R q q') : R (rJ o p q) (rJ o' p' q') :=
  h.sub (h.mul hq.y (h.mul (h.mul hp.z hp.z) hp.z)) (h.mul hp.y (h.mul (h.mul hq.z hq.z) hq.z))

theorem sumJ_rel (h : FRel R o o' e e') {p q : Jp A} {p' q' : Jp B} (hp : RJ R p p') (hq : RJ R q q') : RJ R (sumJ o p q) (sumJ o' p' q') := by
  have pp := h.mul hp.z hp.z
  have qq := h.mul hq.z hq.z
  have u := h.mul hp.x qq
  have v := h.mul hq.x pp
  have s := h.mul hp.y (h.mul qq hq.z)
  have t := h.mul hq.y (h.mul pp hp.z)
  have hh := h.sub v u
  have r := h.sub t s
  have h2 := h.mul hh hh
  have h3 := h.mul h2 hh
  have w := h.mul u h2
  have x := h.sub (h.sub (h.mul r r) h3) (h.add w w)
  exact ⟨x, h.sub (h.mul r (h.sub w x)) (h.mul s h3), h.mul hh (h.mul hp.z hq.z)⟩

theorem sum_rel (h : FRel R o o' e e') {f : Fl A} {g : Fl B} (hf : RFl R f g) {p q : Jp A} {p' q' : Jp B} (hp : RJ R p p') (hq : RJ R q q') : RJ R (sumE o e f p q) (sumE o' e' g p' q') := by
  unfold sumE
  rw [h.eq hp.z h.zero, h.eq hq.z h.zero, h.eq (hJ_rel h hp hq) h.zero, h.eq (rJ_rel h hp hq) h.zero]
  cases e' p'.z o'.zero
  · cases e' q'.z o'.zero
    · cases e' (hJ o' p' q') o'.zero
      · exact sumJ_rel h hp hq
      · cases e' (rJ o' p' q') o'.zero
        · exact ⟨hf.one, hf.one, h.zero⟩
        · exact twice_rel h hp
    · exact hp
  · exact hq
end

/-! The first field as numbers. -/

/-- A number is reckoned ahead. -/
def forceN {α : Type} (x : Nat) (f : Nat → α) : α := Nat.rec (f 0) (fun n _ => f (n + 1)) x

theorem forceN_eq {α : Type} (x : Nat) (f : Nat → α) : forceN x f = f x := by cases x <;> rfl

def powS (a : Nat) (e : W6) : Nat → Nat → Nat
  | 0, out => out
  | k + 1, out => forceN (bif e.bit k then mulN (mulN out out) a else mulN out out) fun r => powS a e k r

def addN (a b : Nat) : Nat := (a + b) % pN
def subN (a b : Nat) : Nat := (a + (pN - b)) % pN
def negN (a : Nat) : Nat := subN 0 a
def oneN : Nat := 3380320199399472671518931668520476396067793891014375699959770179129436917079669831430077592723774664465579537268733
def wideN : Nat := 2708263910654730174793787626328176511836455197166317677006154293982164122222515399004018013397331347120527951271750
def invN (a : Nat) : Nat := powS a expInv 384 oneN
def toN (a : Nat) : Nat := mulN wideN a
def backN (a : Nat) : Nat := mulN a 1
def fN : FO Nat := ⟨addN, subN, mulN, negN, invN, toN, backN, oneN, 0⟩

structure Rep (n : Nat) (w : W6) : Prop where
  val : w.val = n
  lt : n < pN

theorem pN_pos : 0 < pN := by decide +kernel
theorem pN_eq : pN = 4002409555221667393417789825735904156556882819939007885332058136124031650490837864442687629129015664037894272559787 := rfl

theorem rep_mul {a c : Nat} {b d : W6} (h : Rep a b) (k : Rep c d) : Rep (mulN a c) (mulW b d) := ⟨by rw [mulW_nat b d (by rw [h.val]; exact h.lt), h.val, k.val], mulN_lt _ _⟩

theorem rep_add {a c : Nat} {b d : W6} (h : Rep a b) (k : Rep c d) : Rep (addN a c) (addW b d) := by
  unfold addN
  refine ⟨?_, Nat.mod_lt _ pN_pos⟩
  have h1 := adds_nat b d
  rw [h.val, k.val] at h1
  have h2 := h.lt
  have h3 := k.lt
  have hl := (adds b d).1.val_lt
  have hb := b2n_le (adds b d).2
  show (lessW (adds b d).1).val = _
  generalize (adds b d).1 = s at h1 hl ⊢
  generalize b2n (adds b d).2 = cc at h1 hb
  have h4 := lessW_nat s (by rw [pN_eq] at h2 h3 ⊢; generalize s.val = v at *; omega)
  rw [h4]
  rw [pN_eq] at h2 h3 ⊢
  generalize s.val = v at *
  have hv : v = a + c := by omega
  subst hv
  split
  · rename_i hlt
    rw [Nat.mod_eq_of_lt hlt]
  · rename_i hge
    rw [Nat.mod_eq_sub_mod (by omega), Nat.mod_eq_of_lt (by omega)]

theorem rep_sub {a c : Nat} {b d : W6} (h : Rep a b) (k : Rep c d) : Rep (subN a c) (subW b d) := by
  unfold subN
  refine ⟨?_, Nat.mod_lt _ pN_pos⟩
  have h1 := subs_nat b d
  rw [h.val, k.val] at h1
  have h2 := h.lt
  have h3 := k.lt
  have hl := (subs b d).1.val_lt
  unfold subW
  cases hb : (subs b d).2 with
  | false =>
    rw [hb] at h1
    have z : b2n false = 0 := rfl
    rw [z, Nat.mul_zero, Nat.add_zero] at h1
    simp only [cond_false]
    generalize (subs b d).1.val = v at *
    rw [pN_eq] at h2 h3 ⊢
    rw [Nat.mod_eq_sub_mod (by omega), Nat.mod_eq_of_lt (by omega)]
    omega
  | true =>
    rw [hb] at h1
    have z : b2n true = 1 := rfl
    rw [z, Nat.mul_one] at h1
    simp only [cond_true]
    have h5 := adds_nat (subs b d).1 primeW
    rw [prime_val] at h5
    have hl2 := (adds (subs b d).1 primeW).1.val_lt
    have hb2 := b2n_le (adds (subs b d).1 primeW).2
    generalize (adds (subs b d).1 primeW).1.val = u at *
    generalize b2n (adds (subs b d).1 primeW).2 = cc at *
    generalize (subs b d).1.val = v at *
    rw [pN_eq] at h2 h3 h5 ⊢
    rw [Nat.mod_eq_of_lt (by omega)]
    omega

theorem W6.val_inj {a b : W6} (h : a.val = b.val) : a = b := by
  have f : ∀ x : BitVec 64, x.toNat < 18446744073709551616 := fun x => x.isLt
  obtain ⟨a0, a1, a2, a3, a4, a5⟩ := a
  obtain ⟨b0, b1, b2, b3, b4, b5⟩ := b
  simp only [W6.val] at h
  have g0 := f a0; have g1 := f a1; have g2 := f a2; have g3 := f a3; have g4 := f a4; have g5 := f a5
  have k0 := f b0; have k1 := f b1; have k2 := f b2; have k3 := f b3; have k4 := f b4; have k5 := f b5
  have e0 : a0 = b0 := BitVec.eq_of_toNat_eq (by omega)
  have e1 : a1 = b1 := BitVec.eq_of_toNat_eq (by omega)
  have e2 : a2 = b2 := BitVec.eq_of_toNat_eq (by omega)
  have e3 : a3 = b3 := BitVec.eq_of_toNat_eq (by omega)
  have e4 : a4 = b4 := BitVec.eq_of_toNat_eq (by omega)
  have e5 : a5 = b5 := BitVec.eq_of_toNat_eq (by omega)
  subst e0 e1 e2 e3 e4 e5
  rfl

theorem eqW_iff (a b : W6) : eqW a b = true ↔ a = b := by
  obtain ⟨a0, a1, a2, a3, a4, a5⟩ := a
  obtain ⟨b0, b1, b2, b3, b4, b5⟩ := b
  simp [eqW]

theorem rep_eq {a c : Nat} {b d : W6} (h : Rep a b) (k : Rep c d) : Nat.beq a c = eqW b d := by
  rw [Bool.eq_iff_iff, eqW_iff, Nat.beq_eq]
  constructor
  · intro e; exact W6.val_inj (by rw [h.val, k.val, e])
  · intro e; rw [← h.val, ← k.val, e]

theorem rep_pow {a : Nat} {b : W6} (h : Rep a b) (e : W6) : ∀ (k : Nat) {n : Nat} {w : W6}, Rep n w → Rep (powS a e k n) (powG mulW b e k w)
  | 0, n, w, hn => hn
  | k + 1, n, w, hn => by
    simp only [powS, powG, forceN_eq]
    apply rep_pow h e k
    cases e.bit k
    · rw [cond_false, cond_false]; exact rep_mul hn hn
    · rw [cond_true, cond_true]; exact rep_mul (rep_mul hn hn) h

theorem one_val : oneW.val = oneN := by decide +kernel
theorem zero_val : zeroW.val = 0 := by decide +kernel
theorem wide_val : wideW.val = wideN := by decide +kernel
theorem oneN_lt : oneN < pN := by decide +kernel
theorem wideN_lt : wideN < pN := by decide +kernel
theorem rep_one : Rep oneN oneW := ⟨one_val, oneN_lt⟩
theorem rep_zero : Rep 0 zeroW := ⟨zero_val, pN_pos⟩
theorem rep_inv {a : Nat} {b : W6} (h : Rep a b) : Rep (invN a) (invW b) := by
  unfold invN invW pow384
  exact rep_pow h expInv 384 rep_one

theorem rep_neg {a : Nat} {b : W6} (h : Rep a b) : Rep (negN a) (negW b) := by
  unfold negN negW
  exact rep_sub rep_zero h

/-- A told number, as an element. -/
theorem rep_to (a : W6) : Rep (toN a.val) (toW a) := by
  unfold toN toW
  exact ⟨by rw [mulW_nat wideW a (by rw [wide_val]; exact wideN_lt), wide_val], mulN_lt _ _⟩

/-- An element, as a told number. -/
theorem rep_back {a : Nat} {b : W6} (h : Rep a b) : (fromW b).val = backN a := by
  unfold backN fromW
  rw [mulW_nat b _ (by rw [h.val]; exact h.lt), h.val]
  have : (W6.mk 1#64 0#64 0#64 0#64 0#64 0#64).val = 1 := by decide +kernel
  rw [this]

theorem fN_add : fN.add = addN := by simp only [fN]
theorem fN_sub : fN.sub = subN := by simp only [fN]
theorem fN_mul : fN.mul = mulN := by simp only [fN]
theorem fN_neg : fN.neg = negN := by simp only [fN]
theorem fN_inv : fN.inv = invN := by simp only [fN]
theorem fW_add : fW.add = addW := by simp only [fW]
theorem fW_sub : fW.sub = subW := by simp only [fW]
theorem fW_mul : fW.mul = mulW := by simp only [fW]
theorem fW_neg : fW.neg = negW := by simp only [fW]
theorem fW_inv : fW.inv = invW := by simp only [fW]
theorem relW : FRel Rep fN fW Nat.beq eqW where
  add h k := by rw [fN_add, fW_add]; exact rep_add h k
  sub h k := by rw [fN_sub, fW_sub]; exact rep_sub h k
  mul h k := by rw [fN_mul, fW_mul]; exact rep_mul h k
  neg h := by rw [fN_neg, fW_neg]; exact rep_neg h
  inv h := by rw [fN_inv, fW_inv]; exact rep_inv h
  zero := rep_zero
  eq h k := rep_eq h k

end Go.Rq

/- The second field as numbers. -/
namespace Go.Rq
open Go

structure DN (A : Type) where
  a : A
  b : A

section
variable {A : Type} (o : FO A)
def addA (x y : DN A) : DN A := ⟨o.add x.a y.a, o.add x.b y.b⟩
def subA (x y : DN A) : DN A := ⟨o.sub x.a y.a, o.sub x.b y.b⟩
def negA (x : DN A) : DN A := ⟨o.neg x.a, o.neg x.b⟩
def mulA (x y : DN A) : DN A := ⟨o.sub (o.mul x.a y.a) (o.mul x.b y.b), o.sub (o.sub (o.mul (o.add x.a x.b) (o.add y.a y.b)) (o.mul x.a y.a)) (o.mul x.b y.b)⟩
def invA (x : DN A) : DN A := ⟨o.mul x.a (o.inv (o.add (o.mul x.a x.a) (o.mul x.b x.b))), o.mul (o.neg x.b) (o.inv (o.add (o.mul x.a x.a) (o.mul x.b x.b)))⟩
end

structure RD {A : Type} (R : A → W6 → Prop) (x : DN A) (w : D6) : Prop where
  a : R x.a w.a
  b : R x.b w.b

def beqA {A : Type} (e : A → A → Bool) (x y : DN A) : Bool := bif e x.a y.a then e x.b y.b else false

theorem eqD_iff (a b : D6) : eqD a b = true ↔ a = b := by
  obtain ⟨⟨a0, a1, a2, a3, a4, a5⟩, ⟨a6, a7, a8, a9, a10, a11⟩⟩ := a
  obtain ⟨⟨b0, b1, b2, b3, b4, b5⟩, ⟨b6, b7, b8, b9, b10, b11⟩⟩ := b
  simp [eqD, and_assoc]

theorem eqW_D (b d : D6) : eqD b d = bif eqW b.a d.a then eqW b.b d.b else false := by
  rw [Bool.eq_iff_iff, eqD_iff]
  cases h1 : eqW b.a d.a with
  | false =>
    rw [cond_false]
    constructor
    · intro h; rw [h, (eqW_iff _ _).2 rfl] at h1; cases h1
    · intro h; cases h
  | true =>
    have h1 := (eqW_iff _ _).1 h1
    rw [cond_true, eqW_iff]
    constructor
    · intro h; rw [h]
    · intro h2
      obtain ⟨ba, bb⟩ := b
      obtain ⟨da, db⟩ := d
      simp at h1 h2; rw [h1, h2]

section
variable {A : Type} {R : A → W6 → Prop} {o : FO A} {o' : FO W6} {e : A → A → Bool}

theorem rd_add (h : FRel R o o' e eqW) {a c : DN A} {b d : D6} (p : RD R a b) (q : RD R c d) : RD R (addA o a c) (add2 o' b d) := ⟨h.add p.a q.a, h.add p.b q.b⟩
theorem rd_sub (h : FRel R o o' e eqW) {a c : DN A} {b d : D6} (p : RD R a b) (q : RD R c d) : RD R (subA o a c) (sub2 o' b d) := ⟨h.sub p.a q.a, h.sub p.b q.b⟩
theorem rd_neg (h : FRel R o o' e eqW) {a : DN A} {b : D6} (p : RD R a b) : RD R (negA o a) (neg2 o' b) := ⟨h.neg p.a, h.neg p.b⟩
theorem rd_mul (h : FRel R o o' e eqW) {a c : DN A} {b d : D6} (p : RD R a b) (q : RD R c d) : RD R (mulA o a c) (mul2 o' b d) := by
  have x := h.mul p.a q.a
  have y := h.mul p.b q.b
  have both := h.mul (h.add p.a p.b) (h.add q.a q.b)
  exact ⟨h.sub x y, h.sub (h.sub both x) y⟩
theorem rd_inv (h : FRel R o o' e eqW) {a : DN A} {b : D6} (p : RD R a b) : RD R (invA o a) (inv2 o' b) := by
  have n := h.inv (h.add (h.mul p.a p.a) (h.mul p.b p.b))
  exact ⟨h.mul p.a n, h.mul (h.neg p.b) n⟩
theorem rd_eq (h : FRel R o o' e eqW) {a c : DN A} {b d : D6} (p : RD R a b) (q : RD R c d) : beqA e a c = eqD b d := by
  unfold beqA
  rw [eqW_D, h.eq p.a q.a, h.eq p.b q.b]
end

def fDN : FO (DN Nat) := ⟨addA fN, subA fN, mulA fN, negA fN, invA fN, fun x => ⟨toN x.a, toN x.b⟩, fun x => ⟨backN x.a, backN x.b⟩, ⟨oneN, 0⟩, ⟨0, 0⟩⟩
theorem rd_zero : RD Rep ⟨0, 0⟩ zero2 := ⟨rep_zero, rep_zero⟩
theorem rd_one : RD Rep ⟨oneN, 0⟩ one2 := ⟨rep_one, rep_zero⟩
theorem fDN_add : fDN.add = addA fN := by simp only [fDN]
theorem fDN_sub : fDN.sub = subA fN := by simp only [fDN]
theorem fDN_mul : fDN.mul = mulA fN := by simp only [fDN]
theorem fDN_neg : fDN.neg = negA fN := by simp only [fDN]
theorem fDN_inv : fDN.inv = invA fN := by simp only [fDN]
theorem fD_add : fD.add = add2 fW := by simp only [fD]
theorem fD_sub : fD.sub = sub2 fW := by simp only [fD]
theorem fD_mul : fD.mul = mul2 fW := by simp only [fD]
theorem fD_neg : fD.neg = neg2 fW := by simp only [fD]
theorem fD_inv : fD.inv = inv2 fW := by simp only [fD]
theorem relD : FRel (RD Rep) fDN fD (beqA Nat.beq) eqD where
  add p q := by rw [fDN_add, fD_add]; exact rd_add relW p q
  sub p q := by rw [fDN_sub, fD_sub]; exact rd_sub relW p q
  mul p q := by rw [fDN_mul, fD_mul]; exact rd_mul relW p q
  neg p := by rw [fDN_neg, fD_neg]; exact rd_neg relW p
  inv p := by rw [fDN_inv, fD_inv]; exact rd_inv relW p
  zero := rd_zero
  eq p q := rd_eq relW p q

end Go.Rq

/- A commutative ring of our own, and a normal form of what is reckoned in it: two expressions of one normal form are equal. -/
namespace Go.Rq

class Rg (K : Type) extends Add K, Mul K, Neg K, Sub K, Zero K, One K where
  add_assoc : ∀ x y z : K, x + y + z = x + (y + z)
  add_comm : ∀ x y : K, x + y = y + x
  add_zero : ∀ x : K, x + 0 = x
  neg_add : ∀ x : K, -x + x = 0
  mul_assoc : ∀ x y z : K, x * y * z = x * (y * z)
  mul_comm : ∀ x y : K, x * y = y * x
  mul_one : ∀ x : K, x * 1 = x
  mul_add : ∀ x y z : K, x * (y + z) = x * y + x * z
  sub_eq : ∀ x y : K, x - y = x + -y

section
variable {K : Type} [Rg K]

theorem rg_zero_add (x : K) : 0 + x = x := by rw [Rg.add_comm, Rg.add_zero]
theorem rg_add_neg (x : K) : x + -x = 0 := by rw [Rg.add_comm, Rg.neg_add]
theorem rg_cancel {x y z : K} (h : x + z = y + z) : x = y := by
  have e : x + z + -z = y + z + -z := by rw [h]
  rw [Rg.add_assoc, Rg.add_assoc, rg_add_neg, Rg.add_zero, Rg.add_zero] at e
  exact e
theorem rg_neg_of {x y : K} (h : x + y = 0) : x = -y := rg_cancel (z := y) (by rw [h, Rg.neg_add])
theorem rg_mul_zero (x : K) : x * 0 = 0 := by
  have e : x * 0 + x * 0 = 0 + x * 0 := by rw [← Rg.mul_add, Rg.add_zero, rg_zero_add]
  exact rg_cancel e
theorem rg_zero_mul (x : K) : 0 * x = 0 := by rw [Rg.mul_comm, rg_mul_zero]
theorem rg_one_mul (x : K) : 1 * x = x := by rw [Rg.mul_comm, Rg.mul_one]
theorem rg_add_mul (x y z : K) : (x + y) * z = x * z + y * z := by rw [Rg.mul_comm, Rg.mul_add, Rg.mul_comm z x, Rg.mul_comm z y]
theorem rg_neg_zero : -(0 : K) = 0 := by have e := Rg.neg_add (0 : K); rw [Rg.add_zero] at e; exact e
theorem rg_neg_neg (x : K) : - -x = x := (rg_neg_of (rg_add_neg x)).symm
theorem rg_neg_mul (x y : K) : -x * y = -(x * y) := rg_neg_of (by rw [← rg_add_mul, Rg.neg_add, rg_zero_mul])
theorem rg_mul_neg (x y : K) : x * -y = -(x * y) := by rw [Rg.mul_comm, rg_neg_mul, Rg.mul_comm]
theorem rg_four (a b c d : K) : a + b + (c + d) = a + c + (b + d) := by
  rw [Rg.add_assoc, Rg.add_assoc, ← Rg.add_assoc b, ← Rg.add_assoc c, Rg.add_comm b c]
theorem rg_neg_sum (x y : K) : -(x + y) = -x + -y := (rg_neg_of (by rw [rg_four, Rg.neg_add, Rg.neg_add, Rg.add_zero])).symm
theorem rg_sub_eq {x y : K} (h : x - y = 0) : x = y := by
  rw [Rg.sub_eq] at h
  rw [rg_neg_of h, rg_neg_neg]
theorem rg_sub_self {x y : K} (h : x = y) : x - y = 0 := by rw [h, Rg.sub_eq, rg_add_neg]

/-! Whole numbers. -/
def zn : Nat → K
  | 0 => 0
  | n + 1 => zn n + 1
theorem zn_add (m : Nat) : ∀ n : Nat, (zn (m + n) : K) = zn m + zn n
  | 0 => (Rg.add_zero _).symm
  | n + 1 => by
    show (zn (m + n) : K) + 1 = zn m + (zn n + 1)
    rw [zn_add m n, Rg.add_assoc]
theorem zn_mul (m : Nat) : ∀ n : Nat, (zn (m * n) : K) = zn m * zn n
  | 0 => (rg_mul_zero _).symm
  | n + 1 => by
    rw [Nat.mul_succ, zn_add, zn_mul m n]
    show _ = (zn m : K) * (zn n + 1)
    rw [Rg.mul_add, Rg.mul_one]
def zc (z : Int) : K := zn z.toNat + -zn (-z).toNat
theorem zc_of {z : Int} {m n : Nat} (h : z + n = m) : (zc z : K) = zn m + -zn n := by
  have e : z.toNat + n = m + (-z).toNat := by omega
  have e2 : (zn z.toNat : K) + zn n = zn m + zn (-z).toNat := by rw [← zn_add, e, zn_add]
  unfold zc
  apply rg_cancel (z := zn (-z).toNat + zn n)
  rw [Rg.add_assoc, ← Rg.add_assoc (-zn _), Rg.neg_add, rg_zero_add, e2, Rg.add_comm (zn (-z).toNat) (zn n), Rg.add_assoc, ← Rg.add_assoc (-zn _), Rg.neg_add, rg_zero_add]
theorem zc_split (z : Int) : z + ((-z).toNat : Nat) = (z.toNat : Nat) := by omega
theorem zc_add (a b : Int) : (zc (a + b) : K) = zc a + zc b := by
  have e : (a + b) + (((-a).toNat + (-b).toNat : Nat) : Int) = ((a.toNat + b.toNat : Nat) : Int) := by omega
  rw [zc_of e, zn_add, zn_add, rg_neg_sum, rg_four]
  rfl
theorem zc_neg (a : Int) : (zc (-a) : K) = -zc a := by
  unfold zc
  rw [rg_neg_sum, rg_neg_neg, Int.neg_neg, Rg.add_comm]
theorem zc_mul (a b : Int) : (zc (a * b) : K) = zc a * zc b := by
  have h1 := zc_split a
  have h2 := zc_split b
  have e : a * b + ((a.toNat * (-b).toNat + (-a).toNat * b.toNat : Nat) : Int) = ((a.toNat * b.toNat + (-a).toNat * (-b).toNat : Nat) : Int) := by
    rw [Int.natCast_add, Int.natCast_add, Int.natCast_mul, Int.natCast_mul, Int.natCast_mul, Int.natCast_mul, ← h1, ← h2]
    grind
  rw [zc_of e, zn_add, zn_add, zn_mul, zn_mul, zn_mul, zn_mul]
  unfold zc
  rw [Rg.mul_add, rg_add_mul, rg_add_mul, rg_neg_mul, rg_mul_neg, rg_neg_mul, rg_mul_neg, rg_neg_neg, rg_neg_sum]
  rw [Rg.add_comm (-(zn a.toNat * zn (-b).toNat)) (-(zn (-a).toNat * zn b.toNat)), rg_four, Rg.add_comm (zn (-a).toNat * zn (-b).toNat)]
theorem zc_zero : (zc 0 : K) = 0 := rg_add_neg _
theorem zc_one : (zc 1 : K) = 1 := by
  show (0 : K) + 1 + -0 = 1
  rw [rg_zero_add, rg_neg_zero, Rg.add_zero]

/-! What is reckoned, by the first of the list's elements: p + x * q, where p does without x. -/
end
inductive Pl
  | c (z : Int)
  | h (p q : Pl)

/-- p + x * q, shorter where q is nought. -/
def Pl.mk : Pl → Pl → Pl
  | .c z, .c w => bif w == 0 then .c z else .h (.c z) (.c w)
  | .h p q, r => .h (.h p q) r
  | .c z, .h p q => .h (.c z) (.h p q)
def Pl.addC (a : Int) : Pl → Pl
  | .c b => .c (a + b)
  | .h p q => .h (p.addC a) q
def Pl.add : Pl → Pl → Pl
  | .c a, r => r.addC a
  | .h p q, .c b => .h (p.addC b) q
  | .h p q, .h p' q' => .mk (p.add p') (q.add q')
def Pl.scale (a : Int) : Pl → Pl
  | .c b => .c (a * b)
  | .h p q => .h (p.scale a) (q.scale a)
def Pl.low (f : Pl → Pl) : Pl → Pl
  | .c b => .mk (f (.c b)) (.c 0)
  | .h p q => .mk (f p) (q.low f)
def Pl.mul : Pl → Pl → Pl
  | .c a, r => bif a == 0 then .c 0 else r.scale a
  | .h p q, r => (r.low p.mul).add (.mk (.c 0) (q.mul r))
def Pl.neg (p : Pl) : Pl := p.scale (-1)
def Pl.isZ : Pl → Bool
  | .c z => z == 0
  | .h p q => p.isZ && q.isZ

section
variable {K : Type} [Rg K]
def ev : Pl → List K → K
  | .c z, _ => zc z
  | .h p _, [] => ev p []
  | .h p q, x :: r => ev p r + x * ev q (x :: r)

theorem ev_c (z : Int) (r : List K) : ev (.c z) r = zc z := by cases r <;> rfl
theorem ev_mk : ∀ (p q : Pl) (r : List K), ev (p.mk q) r = ev (.h p q) r
  | .c z, .c w, r => by
    rw [Pl.mk]
    cases hw : w == 0 with
    | false => rfl
    | true =>
      have e : w = 0 := by simpa using hw
      subst e
      rw [cond_true]
      cases r with
      | nil => rfl
      | cons x r =>
        show zc z = ev (.c z) r + x * zc 0
        rw [ev_c, zc_zero, rg_mul_zero, Rg.add_zero]
  | .h _ _, _, _ => rfl
  | .c _, .h _ _, _ => rfl
theorem ev_addC (a : Int) : ∀ (p : Pl) (r : List K), ev (p.addC a) r = zc a + ev p r
  | .c b, r => by rw [Pl.addC, ev_c, ev_c, zc_add]
  | .h p q, [] => ev_addC a p []
  | .h p q, x :: r => by
    show ev (p.addC a) r + x * ev q (x :: r) = zc a + (ev p r + x * ev q (x :: r))
    rw [ev_addC a p r, Rg.add_assoc]
theorem ev_add : ∀ (p q : Pl) (r : List K), ev (p.add q) r = ev p r + ev q r
  | .c a, q, r => by rw [Pl.add, ev_addC, ev_c]
  | .h p q, .c b, [] => by
    show ev (p.addC b) [] = ev p [] + zc b
    rw [ev_addC, Rg.add_comm]
  | .h p q, .c b, x :: r => by
    show ev (p.addC b) r + x * ev q (x :: r) = ev p r + x * ev q (x :: r) + zc b
    rw [ev_addC, Rg.add_comm (zc b), Rg.add_assoc, Rg.add_assoc, Rg.add_comm (zc b)]
  | .h p q, .h p' q', [] => (ev_mk _ _ _).trans (ev_add p p' [])
  | .h p q, .h p' q', x :: r => by
    refine (ev_mk _ _ _).trans ?_
    show ev (p.add p') r + x * ev (q.add q') (x :: r) = ev p r + x * ev q (x :: r) + (ev p' r + x * ev q' (x :: r))
    rw [ev_add p p' r, ev_add q q' (x :: r), Rg.mul_add, rg_four]
theorem ev_scale (a : Int) : ∀ (p : Pl) (r : List K), ev (p.scale a) r = zc a * ev p r
  | .c b, r => by rw [Pl.scale, ev_c, ev_c, zc_mul]
  | .h p q, [] => ev_scale a p []
  | .h p q, x :: r => by
    show ev (p.scale a) r + x * ev (q.scale a) (x :: r) = zc a * (ev p r + x * ev q (x :: r))
    rw [ev_scale a p r, ev_scale a q (x :: r), Rg.mul_add, ← Rg.mul_assoc, ← Rg.mul_assoc, Rg.mul_comm x]
theorem ev_low0 {f : Pl → Pl} {P : K} (hf : ∀ s, ev (f s) ([] : List K) = P * ev s []) : ∀ s : Pl, ev (s.low f) ([] : List K) = P * ev s []
  | .c b => (ev_mk _ _ _).trans (hf (.c b))
  | .h p _ => (ev_mk _ _ _).trans (hf p)
theorem ev_low {f : Pl → Pl} {P : K} {r : List K} (hf : ∀ s, ev (f s) r = P * ev s r) (x : K) : ∀ s : Pl, ev (s.low f) (x :: r) = P * ev s (x :: r)
  | .c b => by
    refine (ev_mk _ _ _).trans ?_
    show ev (f (.c b)) r + x * zc 0 = P * zc b
    rw [hf, ev_c, zc_zero, rg_mul_zero, Rg.add_zero]
  | .h p q => by
    refine (ev_mk _ _ _).trans ?_
    show ev (f p) r + x * ev (q.low f) (x :: r) = P * (ev p r + x * ev q (x :: r))
    rw [hf, ev_low hf x q, Rg.mul_add, ← Rg.mul_assoc, ← Rg.mul_assoc, Rg.mul_comm x]
theorem ev_mul : ∀ (p s : Pl) (r : List K), ev (p.mul s) r = ev p r * ev s r
  | .c a, s, r => by
    rw [Pl.mul]
    cases ha : a == 0 with
    | false => rw [cond_false, ev_scale, ev_c]
    | true =>
      have e : a = 0 := by simpa using ha
      rw [cond_true, e, ev_c, zc_zero, rg_zero_mul]
  | .h p q, s, [] => by
    show ev ((s.low p.mul).add (.mk (.c 0) (q.mul s))) [] = ev p [] * ev s []
    rw [ev_add, ev_mk, ev_low0 (fun s => ev_mul p s [])]
    show _ + zc 0 = _
    rw [zc_zero, Rg.add_zero]
  | .h p q, s, x :: r => by
    show ev ((s.low p.mul).add (.mk (.c 0) (q.mul s))) (x :: r) = (ev p r + x * ev q (x :: r)) * ev s (x :: r)
    rw [ev_add, ev_mk, ev_low (fun s => ev_mul p s r)]
    show _ + (ev (.c 0) r + x * ev (q.mul s) (x :: r)) = _
    rw [ev_c, zc_zero, rg_zero_add, ev_mul q s (x :: r), rg_add_mul, Rg.mul_assoc]
theorem ev_neg (p : Pl) (r : List K) : ev p.neg r = -ev p r := by
  rw [Pl.neg, ev_scale, zc_neg, zc_one, rg_neg_mul, rg_one_mul]
theorem ev_isZ : ∀ (p : Pl) (r : List K), p.isZ = true → ev p r = 0
  | .c z, r, h => by
    have e : z = 0 := by simpa [Pl.isZ] using h
    rw [ev_c, e, zc_zero]
  | .h p _, [], h => ev_isZ p [] (Bool.and_eq_true_iff.1 h).1
  | .h p q, x :: r, h => by
    obtain ⟨h1, h2⟩ := Bool.and_eq_true_iff.1 h
    show ev p r + x * ev q (x :: r) = 0
    rw [ev_isZ p r h1, ev_isZ q (x :: r) h2, rg_mul_zero, Rg.add_zero]

/-! The form of an expression, found by its shape; the list has its letters. -/
class Vx (r : List K) (x : K) (p : outParam Pl) : Prop where
  ok : ev p r = x
class Rf (r : List K) (x : K) (p : outParam Pl) : Prop where
  ok : ev p r = x

instance vxT {r : List K} {x y : K} {p : Pl} [h : Vx r x p] : Vx (y :: r) x (.h p (.c 0)) where
  ok := by
    show ev p r + y * zc 0 = x
    rw [h.ok, zc_zero, rg_mul_zero, Rg.add_zero]
instance vxH {r : List K} {x : K} : Vx (x :: r) x (.h (.c 0) (.c 1)) where
  ok := by
    show ev (.c 0) r + x * zc 1 = x
    rw [ev_c, zc_zero, zc_one, Rg.mul_one, rg_zero_add]
instance rfV {r : List K} {x : K} {p : Pl} [h : Vx r x p] : Rf r x p where
  ok := h.ok
instance rfZero {r : List K} : Rf r 0 (.c 0) where
  ok := by rw [ev_c, zc_zero]
instance rfOne {r : List K} : Rf r 1 (.c 1) where
  ok := by rw [ev_c, zc_one]
instance rfNeg {r : List K} {x : K} {p : Pl} [h : Rf r x p] : Rf r (-x) p.neg where
  ok := by rw [ev_neg, h.ok]
instance rfSub {r : List K} {x y : K} {p q : Pl} [h : Rf r x p] [k : Rf r y q] : Rf r (x - y) (p.add q.neg) where
  ok := by rw [ev_add, ev_neg, h.ok, k.ok, Rg.sub_eq]
instance rfMul {r : List K} {x y : K} {p q : Pl} [h : Rf r x p] [k : Rf r y q] : Rf r (x * y) (p.mul q) where
  ok := by rw [ev_mul, h.ok, k.ok]
instance rfAdd {r : List K} {x y : K} {p q : Pl} [h : Rf r x p] [k : Rf r y q] : Rf r (x + y) (p.add q) where
  ok := by rw [ev_add, h.ok, k.ok]

/-- Two expressions of one form. -/
theorem rg (r : List K) {x y : K} {p q : Pl} [h : Rf r x p] [k : Rf r y q] (e : (p.add q.neg).isZ = true := by decide +kernel) : x = y :=
  rg_sub_eq (by
    have z := ev_isZ (p.add q.neg) r e
    rw [ev_add, ev_neg, h.ok, k.ok, ← Rg.sub_eq] at z
    exact z)
/-- The difference is a multiple of a known equation's. -/
theorem rg1 (r : List K) {x y a b : K} (u : a = b) (c : K) {p q s t w : Pl} [h : Rf r x p] [k : Rf r y q] [ha : Rf r a s] [hb : Rf r b t] [hc : Rf r c w]
    (e : ((p.add q.neg).add (w.mul (s.add t.neg)).neg).isZ = true := by decide +kernel) : x = y :=
  rg_sub_eq (by
    have z := ev_isZ _ r e
    rw [ev_add, ev_add, ev_neg, ev_neg, ev_mul, ev_add, ev_neg, h.ok, k.ok, ha.ok, hb.ok, hc.ok, ← Rg.sub_eq, ← Rg.sub_eq, ← Rg.sub_eq, rg_sub_self u, rg_mul_zero, Rg.sub_eq _ (0 : K), rg_neg_zero, Rg.add_zero] at z
    exact z)
theorem rg_eq0 {a b : K} (u : a = b) (c : K) : c * (a - b) = 0 := by rw [rg_sub_self u, rg_mul_zero]
theorem rg_sum0 {a b : K} (h : a = 0) (k : b = 0) : a + b = 0 := by rw [h, k, Rg.add_zero]
/-- Of two, of three, of four. -/
theorem rg2 (r : List K) {x y a b a' b' : K} (u : a = b) (c : K) (v : a' = b') (d : K) {p q s : Pl} [Rf r x p] [Rf r y q] [Rf r (c * (a - b) + d * (a' - b')) s]
    (e : (((p.add q.neg).add ((Pl.c 1).mul (s.add (Pl.c 0).neg)).neg)).isZ = true := by decide +kernel) : x = y :=
  rg1 r (rg_sum0 (rg_eq0 u c) (rg_eq0 v d)) 1 e
theorem rg3 (r : List K) {x y a b a' b' a2 b2 : K} (u : a = b) (c : K) (v : a' = b') (d : K) (w : a2 = b2) (f : K) {p q s : Pl} [Rf r x p] [Rf r y q] [Rf r (c * (a - b) + d * (a' - b') + f * (a2 - b2)) s]
    (e : (((p.add q.neg).add ((Pl.c 1).mul (s.add (Pl.c 0).neg)).neg)).isZ = true := by decide +kernel) : x = y :=
  rg1 r (rg_sum0 (rg_sum0 (rg_eq0 u c) (rg_eq0 v d)) (rg_eq0 w f)) 1 e

theorem rg_test (x y z : K) (h : x = y + z) : x * x - y * y = (y + y + z) * z := rg1 [x, y, z] h (x + (y + z))
theorem rg_test2 (x y z : K) : (x + y) * (x - y) + -(z * 0) = x * x - y * y * 1 := rg [x, y, z]
theorem rg_test3 (x y : K) (h : x = y) (k : y = 0) : x * x = 0 := rg2 [x, y] h x k x
end
end Go.Rq
