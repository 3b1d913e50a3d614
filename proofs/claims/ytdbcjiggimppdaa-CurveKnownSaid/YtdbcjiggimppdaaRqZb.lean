/- The product of two elements, as a number. -/
import Derived.Test.YtdbcjiggimppdaaRqZa
namespace Go.Rq
open Go

theorem round_sum {p0 t0 r0 c0 p1 t1 r1 c1 p2 t2 r2 c2 p3 t3 r3 c3 p4 t4 r4 c4 p5 t5 r5 c5 q k0 k6 s6 s1 k1 s2 k2 s3 k3 s4 k4 s5 k5 : Nat} (e0 : r0 + 18446744073709551616 * c0 = p0 + t0) (e1 : r1 + 18446744073709551616 * c1 = p1 + t1 + c0) (e2 : r2 + 18446744073709551616 * c2 = p2 + t2 + c1) (e3 : r3 + 18446744073709551616 * c3 = p3 + t3 + c2) (e4 : r4 + 18446744073709551616 * c4 = p4 + t4 + c3) (e5 : r5 + 18446744073709551616 * c5 = p5 + t5 + c4) (f0 : 18446744073709551616 * k0 = q * 13402431016077863595 + r0) (f1 : s1 + 18446744073709551616 * k1 = q * 2210141511517208575 + r1 + k0) (f2 : s2 + 18446744073709551616 * k2 = q * 7435674573564081700 + r2 + k1) (f3 : s3 + 18446744073709551616 * k3 = q * 7239337960414712511 + r3 + k2) (f4 : s4 + 18446744073709551616 * k4 = q * 5412103778470702295 + r4 + k3) (f5 : s5 + 18446744073709551616 * k5 = q * 1873798617647539866 + r5 + k4) (f6 : s6 + 18446744073709551616 * k6 = c5 + k5) :
    18446744073709551616 * (s1 + 18446744073709551616 * s2 + 340282366920938463463374607431768211456 * s3 + 6277101735386680763835789423207666416102355444464034512896 * s4 + 115792089237316195423570985008687907853269984665640564039457584007913129639936 * s5 + 2135987035920910082395021706169552114602704522356652769947041607822219725780640550022962086936576 * s6) + 726838724295606890549323807888004534353641360687318060281490199180639288113397923326191050713763565560762521606266177933534601628614656 * k6 = (p0 + 18446744073709551616 * p1 + 340282366920938463463374607431768211456 * p2 + 6277101735386680763835789423207666416102355444464034512896 * p3 + 115792089237316195423570985008687907853269984665640564039457584007913129639936 * p4 + 2135987035920910082395021706169552114602704522356652769947041607822219725780640550022962086936576 * p5) + (t0 + 18446744073709551616 * t1 + 340282366920938463463374607431768211456 * t2 + 6277101735386680763835789423207666416102355444464034512896 * t3 + 115792089237316195423570985008687907853269984665640564039457584007913129639936 * t4 + 2135987035920910082395021706169552114602704522356652769947041607822219725780640550022962086936576 * t5) + q * 4002409555221667393417789825735904156556882819939007885332058136124031650490837864442687629129015664037894272559787 := by
  omega

theorem val_mul (x : Nat) (a : W6) : x * a.val = (x * a.w0.toNat) + 18446744073709551616 * (x * a.w1.toNat) + 340282366920938463463374607431768211456 * (x * a.w2.toNat) + 6277101735386680763835789423207666416102355444464034512896 * (x * a.w3.toNat) + 115792089237316195423570985008687907853269984665640564039457584007913129639936 * (x * a.w4.toNat) + 2135987035920910082395021706169552114602704522356652769947041607822219725780640550022962086936576 * (x * a.w5.toNat) := by
  simp only [W6.val, Nat.mul_add, Nat.mul_left_comm x]

theorem neg_inv (r : BitVec 64) : (r * 9940570264628428797#64 * primeW.w0).toNat = (r.toNat * 18446744073709551615) % 18446744073709551616 := by
  rw [BitVec.mul_assoc, BitVec.toNat_mul]
  rfl

theorem low_zero (r : BitVec 64) : (mul64 (r * 9940570264628428797#64) primeW.w0).2 + r + bitW false = 0#64 := by
  apply BitVec.eq_of_toNat_eq
  show (r * 9940570264628428797#64 * primeW.w0 + r + bitW false).toNat = 0
  have hr := r.isLt
  rw [BitVec.toNat_add, BitVec.toNat_add, neg_inv, bitW_nat]
  show ((r.toNat * 18446744073709551615 % 18446744073709551616 + r.toNat) % 18446744073709551616 + 0) % 18446744073709551616 = 0
  omega

theorem p_words : primeW.w0.toNat = 13402431016077863595 ∧ primeW.w1.toNat = 2210141511517208575 ∧ primeW.w2.toNat = 7435674573564081700 ∧ primeW.w3.toNat = 7239337960414712511 ∧ primeW.w4.toNat = 5412103778470702295 ∧ primeW.w5.toNat = 1873798617647539866 := by decide +kernel

theorem mulRound_eq {a : W6} {x : BitVec 64} {t : W7} {r0 r1 r2 r3 r4 r5 s1 s2 s3 s4 s5 m : BitVec 64 × BitVec 64} {s0 s6 : BitVec 64 × Bool} {q k0 : BitVec 64}
    (hr0 : mac x a.w0 t.l.w0 (bitW false) = r0) (hr1 : mac x a.w1 t.l.w1 r0.2 = r1) (hr2 : mac x a.w2 t.l.w2 r1.2 = r2) (hr3 : mac x a.w3 t.l.w3 r2.2 = r3) (hr4 : mac x a.w4 t.l.w4 r3.2 = r4) (hr5 : mac x a.w5 t.l.w5 r4.2 = r5)
    (hq : r0.1 * 9940570264628428797#64 = q) (hm : mul64 q primeW.w0 = m) (hs0 : add64 m.2 r0.1 false = s0) (hk : m.1 + bitW s0.2 = k0)
    (hs1 : mac q primeW.w1 r1.1 k0 = s1) (hs2 : mac q primeW.w2 r2.1 s1.2 = s2) (hs3 : mac q primeW.w3 r3.1 s2.2 = s3) (hs4 : mac q primeW.w4 r4.1 s3.2 = s4) (hs5 : mac q primeW.w5 r5.1 s4.2 = s5) (hs6 : add64 (t.w6 + r5.2) s5.2 false = s6) :
    mulRound a x t = ⟨⟨s1.1, s2.1, s3.1, s4.1, s5.1, s6.1⟩, bitW s6.2⟩ := by
  subst hr0 hr1 hr2 hr3 hr4 hr5 hq hm hs0 hk hs1 hs2 hs3 hs4 hs5 hs6
  rfl

theorem carry_first {q r m1 m2 : Nat} {c : Nat} (hc : c ≤ 1) (hq : q < 18446744073709551616) (hm : m2 + 18446744073709551616 * m1 = q * 13402431016077863595) (hs : 18446744073709551616 * c = m2 + r) : m1 + c < 18446744073709551616 ∧ 18446744073709551616 * (m1 + c) = q * 13402431016077863595 + r := by
  omega

theorem round_end {xA A T q v k : Nat} (ha : A < 4002409555221667393417789825735904156556882819939007885332058136124031650490837864442687629129015664037894272559787) (ht : T < A + 4002409555221667393417789825735904156556882819939007885332058136124031650490837864442687629129015664037894272559787) (hx : xA ≤ 18446744073709551615 * A) (hq : q < 18446744073709551616) (hs : 18446744073709551616 * v + 726838724295606890549323807888004534353641360687318060281490199180639288113397923326191050713763565560762521606266177933534601628614656 * k = xA + T + q * 4002409555221667393417789825735904156556882819939007885332058136124031650490837864442687629129015664037894272559787) : k = 0 ∧ v < A + 4002409555221667393417789825735904156556882819939007885332058136124031650490837864442687629129015664037894272559787 ∧ 18446744073709551616 * v = xA + T + q * 4002409555221667393417789825735904156556882819939007885332058136124031650490837864442687629129015664037894272559787 := by
  have hk : k = 0 := by omega
  subst hk
  omega

theorem round_nat (a : W6) (x : BitVec 64) (t : W7) (hw : t.w6 = 0#64) (ha : a.val < pN) (ht : t.l.val < a.val + pN) :
    ∃ q : Nat, (mulRound a x t).w6 = 0#64 ∧ (mulRound a x t).l.val < a.val + pN ∧ 18446744073709551616 * (mulRound a x t).l.val = x.toNat * a.val + t.l.val + q * pN := by
  obtain ⟨g0, g1, g2, g3, g4, g5⟩ := p_words
  obtain ⟨r0, hr0⟩ : ∃ r, mac x a.w0 t.l.w0 (bitW false) = r := ⟨_, rfl⟩
  obtain ⟨r1, hr1⟩ : ∃ r, mac x a.w1 t.l.w1 r0.2 = r := ⟨_, rfl⟩
  obtain ⟨r2, hr2⟩ : ∃ r, mac x a.w2 t.l.w2 r1.2 = r := ⟨_, rfl⟩
  obtain ⟨r3, hr3⟩ : ∃ r, mac x a.w3 t.l.w3 r2.2 = r := ⟨_, rfl⟩
  obtain ⟨r4, hr4⟩ : ∃ r, mac x a.w4 t.l.w4 r3.2 = r := ⟨_, rfl⟩
  obtain ⟨r5, hr5⟩ : ∃ r, mac x a.w5 t.l.w5 r4.2 = r := ⟨_, rfl⟩
  obtain ⟨q, hq⟩ : ∃ q, r0.1 * 9940570264628428797#64 = q := ⟨_, rfl⟩
  obtain ⟨m, hm⟩ : ∃ m, mul64 q primeW.w0 = m := ⟨_, rfl⟩
  obtain ⟨s0, hs0⟩ : ∃ s, add64 m.2 r0.1 false = s := ⟨_, rfl⟩
  obtain ⟨k0, hk⟩ : ∃ k, m.1 + bitW s0.2 = k := ⟨_, rfl⟩
  obtain ⟨s1, hs1⟩ : ∃ s, mac q primeW.w1 r1.1 k0 = s := ⟨_, rfl⟩
  obtain ⟨s2, hs2⟩ : ∃ s, mac q primeW.w2 r2.1 s1.2 = s := ⟨_, rfl⟩
  obtain ⟨s3, hs3⟩ : ∃ s, mac q primeW.w3 r3.1 s2.2 = s := ⟨_, rfl⟩
  obtain ⟨s4, hs4⟩ : ∃ s, mac q primeW.w4 r4.1 s3.2 = s := ⟨_, rfl⟩
  obtain ⟨s5, hs5⟩ : ∃ s, mac q primeW.w5 r5.1 s4.2 = s := ⟨_, rfl⟩
  obtain ⟨s6, hs6⟩ : ∃ s, add64 (t.w6 + r5.2) s5.2 false = s := ⟨_, rfl⟩
  have hres := mulRound_eq hr0 hr1 hr2 hr3 hr4 hr5 hq hm hs0 hk hs1 hs2 hs3 hs4 hs5 hs6
  have e0 := mac_nat x a.w0 t.l.w0 (bitW false)
  rw [hr0, show (bitW false).toNat = 0 from rfl, Nat.add_zero] at e0
  have e1 := mac_nat x a.w1 t.l.w1 r0.2
  rw [hr1] at e1
  have e2 := mac_nat x a.w2 t.l.w2 r1.2
  rw [hr2] at e2
  have e3 := mac_nat x a.w3 t.l.w3 r2.2
  rw [hr3] at e3
  have e4 := mac_nat x a.w4 t.l.w4 r3.2
  rw [hr4] at e4
  have e5 := mac_nat x a.w5 t.l.w5 r4.2
  rw [hr5] at e5
  have lz := low_zero r0.1
  rw [hq, hm] at lz
  have m0 := mul64_nat q primeW.w0
  rw [hm, g0] at m0
  have z0 := add64_nat m.2 r0.1 false
  rw [show (add64 m.2 r0.1 false).1 = 0#64 from lz, hs0, show b2n false = 0 from rfl, show (0#64).toNat = 0 from rfl, Nat.add_zero, Nat.zero_add] at z0
  obtain ⟨c1, c2⟩ := carry_first (b2n_le s0.2) q.isLt m0 z0
  have hk0 : k0.toNat = m.1.toNat + b2n s0.2 := by
    rw [← hk, BitVec.toNat_add, bitW_nat]
    exact Nat.mod_eq_of_lt c1
  rw [← hk0] at c2
  have f1 := mac_nat q primeW.w1 r1.1 k0
  rw [hs1, g1] at f1
  have f2 := mac_nat q primeW.w2 r2.1 s1.2
  rw [hs2, g2] at f2
  have f3 := mac_nat q primeW.w3 r3.1 s2.2
  rw [hs3, g3] at f3
  have f4 := mac_nat q primeW.w4 r4.1 s3.2
  rw [hs4, g4] at f4
  have f5 := mac_nat q primeW.w5 r5.1 s4.2
  rw [hs5, g5] at f5
  have f6 := add64_nat (t.w6 + r5.2) s5.2 false
  rw [hs6, show (t.w6 + r5.2) = r5.2 by rw [hw, BitVec.zero_add], show b2n false = 0 from rfl, Nat.add_zero] at f6
  have sum := round_sum e0 e1 e2 e3 e4 e5 c2 f1 f2 f3 f4 f5 f6
  have xA : x.toNat * a.val ≤ 18446744073709551615 * a.val := Nat.mul_le_mul_right _ (Nat.le_of_lt_succ x.isLt)
  rw [← val_mul x.toNat a] at sum
  obtain ⟨n1, n2, n3⟩ := round_end (v := (W6.mk s1.1 s2.1 s3.1 s4.1 s5.1 s6.1).val) (T := t.l.val) ha ht xA q.isLt sum
  refine ⟨q.toNat, ?_, ?_, ?_⟩
  · rw [hres]
    show bitW s6.2 = 0#64
    cases hh : s6.2 with
    | false => rfl
    | true => rw [hh] at n1; cases n1
  · rw [hres]; exact n2
  · rw [hres]; exact n3


def rinvN : Nat := 3231460744492646417066832100176244795738767926513225105051837195607029917124509527734802654356338138714468589979680
/-- The product of two elements. -/
def mulN (a b : Nat) : Nat := a * b * rinvN % pN

theorem raw_sum {x1 q1 v1 x2 q2 v2 x3 q3 v3 x4 q4 v4 x5 q5 v5 x6 q6 v6 : Nat} (h1 : 18446744073709551616 * v1 = x1 + q1 * 4002409555221667393417789825735904156556882819939007885332058136124031650490837864442687629129015664037894272559787) (h2 : 18446744073709551616 * v2 = x2 + v1 + q2 * 4002409555221667393417789825735904156556882819939007885332058136124031650490837864442687629129015664037894272559787) (h3 : 18446744073709551616 * v3 = x3 + v2 + q3 * 4002409555221667393417789825735904156556882819939007885332058136124031650490837864442687629129015664037894272559787) (h4 : 18446744073709551616 * v4 = x4 + v3 + q4 * 4002409555221667393417789825735904156556882819939007885332058136124031650490837864442687629129015664037894272559787) (h5 : 18446744073709551616 * v5 = x5 + v4 + q5 * 4002409555221667393417789825735904156556882819939007885332058136124031650490837864442687629129015664037894272559787) (h6 : 18446744073709551616 * v6 = x6 + v5 + q6 * 4002409555221667393417789825735904156556882819939007885332058136124031650490837864442687629129015664037894272559787) :
    39402006196394479212279040100143613805079739270465446667948293404245721771497210611414266254884915640806627990306816 * v6 = (x1 + 18446744073709551616 * x2 + 340282366920938463463374607431768211456 * x3 + 6277101735386680763835789423207666416102355444464034512896 * x4 + 115792089237316195423570985008687907853269984665640564039457584007913129639936 * x5 + 2135987035920910082395021706169552114602704522356652769947041607822219725780640550022962086936576 * x6) + (q1 + 18446744073709551616 * q2 + 340282366920938463463374607431768211456 * q3 + 6277101735386680763835789423207666416102355444464034512896 * q4 + 115792089237316195423570985008687907853269984665640564039457584007913129639936 * q5 + 2135987035920910082395021706169552114602704522356652769947041607822219725780640550022962086936576 * q6) * 4002409555221667393417789825735904156556882819939007885332058136124031650490837864442687629129015664037894272559787 := by
  omega

theorem mulRaw_nat (a b : W6) (ha : a.val < pN) : (mulRaw a b).l.val < a.val + pN ∧ ∃ Q, 39402006196394479212279040100143613805079739270465446667948293404245721771497210611414266254884915640806627990306816 * (mulRaw a b).l.val = b.val * a.val + Q * pN := by
  have z0 : zero7.w6 = 0#64 := rfl
  have zv : zero7.l.val = 0 := rfl
  have hp : pN = 4002409555221667393417789825735904156556882819939007885332058136124031650490837864442687629129015664037894272559787 := rfl
  unfold mulRaw
  obtain ⟨q1, w1, l1, h1⟩ := round_nat a b.w0 zero7 z0 ha (by rw [zv]; exact Nat.lt_of_lt_of_le (by decide +kernel : 0 < pN) (Nat.le_add_left _ _))
  generalize mulRound a b.w0 zero7 = t1 at w1 l1 h1 ⊢
  obtain ⟨q2, w2, l2, h2⟩ := round_nat a b.w1 t1 w1 ha l1
  generalize mulRound a b.w1 t1 = t2 at w2 l2 h2 ⊢
  obtain ⟨q3, w3, l3, h3⟩ := round_nat a b.w2 t2 w2 ha l2
  generalize mulRound a b.w2 t2 = t3 at w3 l3 h3 ⊢
  obtain ⟨q4, w4, l4, h4⟩ := round_nat a b.w3 t3 w3 ha l3
  generalize mulRound a b.w3 t3 = t4 at w4 l4 h4 ⊢
  obtain ⟨q5, w5, l5, h5⟩ := round_nat a b.w4 t4 w4 ha l4
  generalize mulRound a b.w4 t4 = t5 at w5 l5 h5 ⊢
  obtain ⟨q6, w6, l6, h6⟩ := round_nat a b.w5 t5 w5 ha l5
  generalize mulRound a b.w5 t5 = t6 at w6 l6 h6 ⊢
  refine ⟨l6, q1 + 18446744073709551616 * q2 + 340282366920938463463374607431768211456 * q3 + 6277101735386680763835789423207666416102355444464034512896 * q4 + 115792089237316195423570985008687907853269984665640564039457584007913129639936 * q5 + 2135987035920910082395021706169552114602704522356652769947041607822219725780640550022962086936576 * q6, ?_⟩
  rw [zv, Nat.add_zero] at h1
  rw [hp] at h1 h2 h3 h4 h5 h6 ⊢
  have hb : b.val * a.val = (b.w0.toNat * a.val) + 18446744073709551616 * (b.w1.toNat * a.val) + 340282366920938463463374607431768211456 * (b.w2.toNat * a.val) + 6277101735386680763835789423207666416102355444464034512896 * (b.w3.toNat * a.val) + 115792089237316195423570985008687907853269984665640564039457584007913129639936 * (b.w4.toNat * a.val) + 2135987035920910082395021706169552114602704522356652769947041607822219725780640550022962086936576 * (b.w5.toNat * a.val) := by
    rw [Nat.mul_comm, val_mul]
    simp only [Nat.mul_comm a.val]
  rw [hb]
  exact raw_sum h1 h2 h3 h4 h5 h6


theorem rinv_ok : 39402006196394479212279040100143613805079739270465446667948293404245721771497210611414266254884915640806627990306816 * rinvN % pN = 1 := by decide +kernel

/-- The product is the number's product with 2^-384. -/
theorem mulW_nat (a b : W6) (ha : a.val < pN) : (mulW a b).val = mulN a.val b.val := by
  obtain ⟨h1, Q, h2⟩ := mulRaw_nat a b ha
  have hm : mulW a b = lessW (mulRaw a b).l := rfl
  rw [hm]
  generalize (mulRaw a b).l = M at h1 h2 ⊢
  have h3 := lessW_nat M (Nat.lt_of_lt_of_le h1 (by rw [Nat.two_mul]; exact Nat.add_le_add_right (Nat.le_of_lt ha) _))
  have hp0 : 0 < pN := by decide +kernel
  have hq : M.val < 2 * pN := Nat.lt_of_lt_of_le h1 (by rw [Nat.two_mul]; exact Nat.add_le_add_right (Nat.le_of_lt ha) _)
  generalize M.val = m at h1 h2 h3 hq ⊢
  have hv : (lessW M).val < pN ∧ (lessW M).val % pN = m % pN := by
    rw [h3]
    split
    · exact ⟨by assumption, rfl⟩
    · rename_i hn
      generalize pN = p at hn hq hp0 ⊢
      refine ⟨by omega, ?_⟩
      rw [← Nat.mod_eq_sub_mod (by omega)]
  have h4 : 39402006196394479212279040100143613805079739270465446667948293404245721771497210611414266254884915640806627990306816 * m % pN = a.val * b.val % pN := by
    rw [h2, Nat.add_mul_mod_self_right, Nat.mul_comm]
  have h5 : m % pN = mulN a.val b.val := by
    unfold mulN
    have : m * (39402006196394479212279040100143613805079739270465446667948293404245721771497210611414266254884915640806627990306816 * rinvN) % pN = m % pN := by
      rw [Nat.mul_mod, rinv_ok, Nat.mul_one, Nat.mod_mod]
    rw [← this]
    rw [show m * (39402006196394479212279040100143613805079739270465446667948293404245721771497210611414266254884915640806627990306816 * rinvN) = 39402006196394479212279040100143613805079739270465446667948293404245721771497210611414266254884915640806627990306816 * m * rinvN by rw [← Nat.mul_assoc, Nat.mul_comm m]]
    rw [Nat.mul_mod, h4, ← Nat.mul_mod]
  rw [← h5, ← hv.2, Nat.mod_eq_of_lt hv.1]

theorem mulN_lt (a b : Nat) : mulN a b < pN := Nat.mod_lt _ (by decide +kernel)
end Go.Rq
