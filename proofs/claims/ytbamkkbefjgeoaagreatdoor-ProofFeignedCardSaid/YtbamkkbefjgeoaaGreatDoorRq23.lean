/- The reference's arithmetic of the great prime, as numbers. -/
import Derived.Test.YtbamkkbefjgeoaaGreatDoorRq22
import Derived.Test.YtbamkkbefjgeoaaGreatDoorRq14
import Derived.Test.YtbamkkbefjgeoaaGreatDoorRq15
import Derived.Test.YtbamkkbefjgeoaaGreatDoorRq09
namespace Go.Rq
open Go Go.Proofs

/-! A row of a product. -/
theorem rowW_eq {t : W8} {a : BitVec 64} {b : W6} {r0 r1 r2 r3 r4 r5 : BitVec 64 × BitVec 64} {s : BitVec 64 × Bool}
    (h0 : mac a b.w0 t.1.w0 (bitW false) = r0) (h1 : mac a b.w1 t.1.w1 r0.2 = r1) (h2 : mac a b.w2 t.1.w2 r1.2 = r2) (h3 : mac a b.w3 t.1.w3 r2.2 = r3) (h4 : mac a b.w4 t.1.w4 r3.2 = r4) (h5 : mac a b.w5 t.1.w5 r4.2 = r5)
    (hs : add64 t.2.1 r5.2 false = s) : rowW t a b = (⟨r0.1, r1.1, r2.1, r3.1, r4.1, r5.1⟩, s.1, t.2.2 + bitW s.2) := by
  subst h0 h1 h2 h3 h4 h5 hs
  rfl

theorem row_sum {p0 t0 r0 c0 p1 t1 r1 c1 p2 t2 r2 c2 p3 t3 r3 c3 p4 t4 r4 c4 p5 t5 r5 c5 w s k : Nat} (e0 : r0 + 18446744073709551616 * c0 = p0 + t0) (e1 : r1 + 18446744073709551616 * c1 = p1 + t1 + c0) (e2 : r2 + 18446744073709551616 * c2 = p2 + t2 + c1) (e3 : r3 + 18446744073709551616 * c3 = p3 + t3 + c2) (e4 : r4 + 18446744073709551616 * c4 = p4 + t4 + c3) (e5 : r5 + 18446744073709551616 * c5 = p5 + t5 + c4) (e6 : s + 18446744073709551616 * k = w + c5) :
    (r0 + 18446744073709551616 * r1 + 340282366920938463463374607431768211456 * r2 + 6277101735386680763835789423207666416102355444464034512896 * r3 + 115792089237316195423570985008687907853269984665640564039457584007913129639936 * r4 + 2135987035920910082395021706169552114602704522356652769947041607822219725780640550022962086936576 * r5) + 39402006196394479212279040100143613805079739270465446667948293404245721771497210611414266254884915640806627990306816 * s + 726838724295606890549323807888004534353641360687318060281490199180639288113397923326191050713763565560762521606266177933534601628614656 * k =
    (t0 + 18446744073709551616 * t1 + 340282366920938463463374607431768211456 * t2 + 6277101735386680763835789423207666416102355444464034512896 * t3 + 115792089237316195423570985008687907853269984665640564039457584007913129639936 * t4 + 2135987035920910082395021706169552114602704522356652769947041607822219725780640550022962086936576 * t5) + 39402006196394479212279040100143613805079739270465446667948293404245721771497210611414266254884915640806627990306816 * w +
    (p0 + 18446744073709551616 * p1 + 340282366920938463463374607431768211456 * p2 + 6277101735386680763835789423207666416102355444464034512896 * p3 + 115792089237316195423570985008687907853269984665640564039457584007913129639936 * p4 + 2135987035920910082395021706169552114602704522356652769947041607822219725780640550022962086936576 * p5) := by
  omega

theorem row_nat (t : W8) (a : BitVec 64) (b : W6) : ∃ c : Bool,
    (rowW t a b).1.val + 39402006196394479212279040100143613805079739270465446667948293404245721771497210611414266254884915640806627990306816 * (rowW t a b).2.1.toNat + 726838724295606890549323807888004534353641360687318060281490199180639288113397923326191050713763565560762521606266177933534601628614656 * b2n c =
      t.1.val + 39402006196394479212279040100143613805079739270465446667948293404245721771497210611414266254884915640806627990306816 * t.2.1.toNat + a.toNat * b.val ∧
    (rowW t a b).2.2 = t.2.2 + bitW c ∧ ∃ k, (rowW t a b).1.w0.toNat + 18446744073709551616 * k = a.toNat * b.w0.toNat + t.1.w0.toNat := by
  obtain ⟨r0, hr0⟩ : ∃ r, mac a b.w0 t.1.w0 (bitW false) = r := ⟨_, rfl⟩
  obtain ⟨r1, hr1⟩ : ∃ r, mac a b.w1 t.1.w1 r0.2 = r := ⟨_, rfl⟩
  obtain ⟨r2, hr2⟩ : ∃ r, mac a b.w2 t.1.w2 r1.2 = r := ⟨_, rfl⟩
  obtain ⟨r3, hr3⟩ : ∃ r, mac a b.w3 t.1.w3 r2.2 = r := ⟨_, rfl⟩
  obtain ⟨r4, hr4⟩ : ∃ r, mac a b.w4 t.1.w4 r3.2 = r := ⟨_, rfl⟩
  obtain ⟨r5, hr5⟩ : ∃ r, mac a b.w5 t.1.w5 r4.2 = r := ⟨_, rfl⟩
  obtain ⟨s, hs⟩ : ∃ s, add64 t.2.1 r5.2 false = s := ⟨_, rfl⟩
  have hres := rowW_eq hr0 hr1 hr2 hr3 hr4 hr5 hs
  have e0 := mac_nat a b.w0 t.1.w0 (bitW false)
  rw [hr0, show (bitW false).toNat = 0 from rfl, Nat.add_zero] at e0
  have e1 := mac_nat a b.w1 t.1.w1 r0.2
  rw [hr1] at e1
  have e2 := mac_nat a b.w2 t.1.w2 r1.2
  rw [hr2] at e2
  have e3 := mac_nat a b.w3 t.1.w3 r2.2
  rw [hr3] at e3
  have e4 := mac_nat a b.w4 t.1.w4 r3.2
  rw [hr4] at e4
  have e5 := mac_nat a b.w5 t.1.w5 r4.2
  rw [hr5] at e5
  have e6 := add64_nat t.2.1 r5.2 false
  rw [hs, show b2n false = 0 from rfl, Nat.add_zero] at e6
  have sum := row_sum e0 e1 e2 e3 e4 e5 e6
  rw [← val_mul a.toNat b] at sum
  refine ⟨s.2, ?_, ?_, r0.2.toNat, ?_⟩
  · rw [hres]; exact sum
  · rw [hres]
  · rw [hres]; exact e0

/-! A round. -/
theorem mt_low {u q p k v0 : Nat} (hq : q * p % 18446744073709551616 = u * 18446744073709551615 % 18446744073709551616) (hv : v0 < 18446744073709551616) (h : v0 + 18446744073709551616 * k = q * p + u) : v0 = 0 := by
  generalize q * p = x at hq h
  omega

theorem mt_end {B T xB U u6 c Q V v6 d : Nat} (hb : B < 4002409555221667393417789825735904156556882819939007885332058136124031650490837864442687629129015664037894272559787) (ht : T < B + 4002409555221667393417789825735904156556882819939007885332058136124031650490837864442687629129015664037894272559787)
    (hx : xB ≤ 18446744073709551615 * B) (hq : Q < 18446744073709551616)
    (hu : U + 39402006196394479212279040100143613805079739270465446667948293404245721771497210611414266254884915640806627990306816 * u6 + 726838724295606890549323807888004534353641360687318060281490199180639288113397923326191050713763565560762521606266177933534601628614656 * c = T + xB)
    (hv : V + 39402006196394479212279040100143613805079739270465446667948293404245721771497210611414266254884915640806627990306816 * v6 + 726838724295606890549323807888004534353641360687318060281490199180639288113397923326191050713763565560762521606266177933534601628614656 * d = U + 39402006196394479212279040100143613805079739270465446667948293404245721771497210611414266254884915640806627990306816 * u6 + Q * 4002409555221667393417789825735904156556882819939007885332058136124031650490837864442687629129015664037894272559787) :
    c = 0 ∧ d = 0 ∧ V + 39402006196394479212279040100143613805079739270465446667948293404245721771497210611414266254884915640806627990306816 * v6 = xB + T + Q * 4002409555221667393417789825735904156556882819939007885332058136124031650490837864442687629129015664037894272559787 ∧
      V + 39402006196394479212279040100143613805079739270465446667948293404245721771497210611414266254884915640806627990306816 * v6 < 18446744073709551616 * (B + 4002409555221667393417789825735904156556882819939007885332058136124031650490837864442687629129015664037894272559787) := by
  have hc : c = 0 := by omega
  subst hc
  have hd : d = 0 := by omega
  subst hd
  refine ⟨rfl, rfl, ?_, ?_⟩ <;> omega

theorem b2n_zero {c : Bool} (h : b2n c = 0) : c = false := by cases c with
  | false => rfl
  | true => cases h

theorem mt_round (b : W6) (x : BitVec 64) (t : W8) (h1 : t.2.1 = 0#64) (h2 : t.2.2 = 0#64) (hb : b.val < pN) (ht : t.1.val < b.val + pN) :
    ∃ q : Nat, (mtRound rowW fastP b x t).2.1 = 0#64 ∧ (mtRound rowW fastP b x t).2.2 = 0#64 ∧ (mtRound rowW fastP b x t).1.val < b.val + pN ∧ 18446744073709551616 * (mtRound rowW fastP b x t).1.val = x.toNat * b.val + t.1.val + q * pN := by
  obtain ⟨u, hue⟩ : ∃ u, rowW t x b = u := ⟨_, rfl⟩
  obtain ⟨v, hve⟩ : ∃ v, rowW u (u.1.w0 * 9940570264628428797#64) primeW = v := ⟨_, rfl⟩
  have hres : mtRound rowW fastP b x t = (⟨v.1.w1, v.1.w2, v.1.w3, v.1.w4, v.1.w5, v.2.1⟩, v.2.2, bitW false) := by
    subst hve hue
    rfl
  obtain ⟨c, hu, hc, -⟩ := row_nat t x b
  obtain ⟨d, hv, hd, k, hl⟩ := row_nat u (u.1.w0 * 9940570264628428797#64) primeW
  rw [hue] at hu hc
  rw [hve] at hv hd hl
  have hq := neg_inv u.1.w0
  rw [BitVec.toNat_mul] at hq
  have z := mt_low hq v.1.w0.isLt hl
  rw [prime_val] at hv
  rw [h1, show (0#64).toNat = 0 from rfl, Nat.mul_zero, Nat.add_zero] at hu
  have xB : x.toNat * b.val ≤ 18446744073709551615 * b.val := Nat.mul_le_mul_right _ (Nat.le_of_lt_succ x.isLt)
  obtain ⟨c0, d0, e1, e2⟩ := mt_end (c := b2n c) (d := b2n d) hb ht xB (u.1.w0 * 9940570264628428797#64).isLt hu hv
  have c0 := b2n_zero c0
  have d0 := b2n_zero d0
  subst c0 d0
  rw [h2] at hc
  rw [hc] at hd
  refine ⟨(u.1.w0 * 9940570264628428797#64).toNat, ?_, ?_, ?_⟩
  · rw [hres]
    show v.2.2 = 0#64
    rw [hd]; rfl
  · rw [hres]; rfl
  · rw [hres]
    have hp : pN = 4002409555221667393417789825735904156556882819939007885332058136124031650490837864442687629129015664037894272559787 := rfl
    rw [hp]
    show (W6.mk v.1.w1 v.1.w2 v.1.w3 v.1.w4 v.1.w5 v.2.1).val < _ ∧ 18446744073709551616 * (W6.mk v.1.w1 v.1.w2 v.1.w3 v.1.w4 v.1.w5 v.2.1).val = _
    have hval : 18446744073709551616 * (W6.mk v.1.w1 v.1.w2 v.1.w3 v.1.w4 v.1.w5 v.2.1).val = v.1.val + 39402006196394479212279040100143613805079739270465446667948293404245721771497210611414266254884915640806627990306816 * v.2.1.toNat := by
      simp only [W6.val]
      omega
    rw [hval]
    refine ⟨?_, e1⟩
    rw [← hval] at e2
    exact Nat.lt_of_mul_lt_mul_left e2

theorem mtRaw_nat (a b : W6) (hb : b.val < pN) : (mtRaw rowW fastP a b).2.1 = 0#64 ∧ (mtRaw rowW fastP a b).1.val < b.val + pN ∧ ∃ Q, 39402006196394479212279040100143613805079739270465446667948293404245721771497210611414266254884915640806627990306816 * (mtRaw rowW fastP a b).1.val = a.val * b.val + Q * pN := by
  have zv : zero8.1.val = 0 := rfl
  have hp : pN = 4002409555221667393417789825735904156556882819939007885332058136124031650490837864442687629129015664037894272559787 := rfl
  unfold mtRaw
  obtain ⟨q1, y1, w1, l1, h1⟩ := mt_round b a.w0 zero8 rfl rfl hb (by rw [zv]; exact Nat.lt_of_lt_of_le (by decide +kernel : 0 < pN) (Nat.le_add_left _ _))
  generalize mtRound rowW fastP b a.w0 zero8 = t1 at y1 w1 l1 h1 ⊢
  obtain ⟨q2, y2, w2, l2, h2⟩ := mt_round b a.w1 t1 y1 w1 hb l1
  generalize mtRound rowW fastP b a.w1 t1 = t2 at y2 w2 l2 h2 ⊢
  obtain ⟨q3, y3, w3, l3, h3⟩ := mt_round b a.w2 t2 y2 w2 hb l2
  generalize mtRound rowW fastP b a.w2 t2 = t3 at y3 w3 l3 h3 ⊢
  obtain ⟨q4, y4, w4, l4, h4⟩ := mt_round b a.w3 t3 y3 w3 hb l3
  generalize mtRound rowW fastP b a.w3 t3 = t4 at y4 w4 l4 h4 ⊢
  obtain ⟨q5, y5, w5, l5, h5⟩ := mt_round b a.w4 t4 y4 w4 hb l4
  generalize mtRound rowW fastP b a.w4 t4 = t5 at y5 w5 l5 h5 ⊢
  obtain ⟨q6, y6, w6, l6, h6⟩ := mt_round b a.w5 t5 y5 w5 hb l5
  generalize mtRound rowW fastP b a.w5 t5 = t6 at y6 w6 l6 h6 ⊢
  refine ⟨y6, l6, q1 + 18446744073709551616 * q2 + 340282366920938463463374607431768211456 * q3 + 6277101735386680763835789423207666416102355444464034512896 * q4 + 115792089237316195423570985008687907853269984665640564039457584007913129639936 * q5 + 2135987035920910082395021706169552114602704522356652769947041607822219725780640550022962086936576 * q6, ?_⟩
  rw [zv, Nat.add_zero] at h1
  rw [hp] at h1 h2 h3 h4 h5 h6 ⊢
  have hb : a.val * b.val = (a.w0.toNat * b.val) + 18446744073709551616 * (a.w1.toNat * b.val) + 340282366920938463463374607431768211456 * (a.w2.toNat * b.val) + 6277101735386680763835789423207666416102355444464034512896 * (a.w3.toNat * b.val) + 115792089237316195423570985008687907853269984665640564039457584007913129639936 * (a.w4.toNat * b.val) + 2135987035920910082395021706169552114602704522356652769947041607822219725780640550022962086936576 * (a.w5.toNat * b.val) := by
    rw [Nat.mul_comm, val_mul]
    simp only [Nat.mul_comm b.val]
  rw [hb]
  exact raw_sum h1 h2 h3 h4 h5 h6

/-! Which is the less. -/
theorem lex_step {M a b x y : Nat} {c : Int} (hx : x < M) (hy : y < M) (h : c < 0 ↔ x < y) : (if a < b then -1 else if b < a then 1 else c) < 0 ↔ x + M * a < y + M * b := by
  rcases Nat.lt_trichotomy a b with h1 | h1 | h1
  · have h2 : M * (a + 1) ≤ M * b := Nat.mul_le_mul_left M h1
    rw [Nat.mul_add, Nat.mul_one] at h2
    rw [if_pos h1]
    generalize M * a = u at *
    generalize M * b = v at *
    omega
  · subst h1
    rw [if_neg (Nat.lt_irrefl _), if_neg (Nat.lt_irrefl _), h]
    generalize M * a = u at *
    omega
  · have h2 : M * (b + 1) ≤ M * a := Nat.mul_le_mul_left M h1
    rw [Nat.mul_add, Nat.mul_one] at h2
    rw [if_neg (Nat.lt_asymm h1), if_pos h1]
    generalize M * a = u at *
    generalize M * b = v at *
    omega

theorem lex_first {a b : Nat} : (if a < b then (-1 : Int) else if b < a then 1 else 0) < 0 ↔ a < b := by
  split
  · omega
  · split <;> omega

theorem cmW_ite (a b : W6) : cmW a b = if a.w5.toNat < b.w5.toNat then -1 else if b.w5.toNat < a.w5.toNat then 1 else if a.w4.toNat < b.w4.toNat then -1 else if b.w4.toNat < a.w4.toNat then 1 else
    if a.w3.toNat < b.w3.toNat then -1 else if b.w3.toNat < a.w3.toNat then 1 else if a.w2.toNat < b.w2.toNat then -1 else if b.w2.toNat < a.w2.toNat then 1 else
    if a.w1.toNat < b.w1.toNat then -1 else if b.w1.toNat < a.w1.toNat then 1 else if a.w0.toNat < b.w0.toNat then -1 else if b.w0.toNat < a.w0.toNat then 1 else 0 := by
  simp only [cmW, cmpL, chainV, BitVec.ult, Bool.cond_decide]

theorem low_words (a0 a1 a2 a3 a4 : BitVec 64) : a0.toNat < 18446744073709551616 ∧ a0.toNat + 18446744073709551616 * a1.toNat < 340282366920938463463374607431768211456 ∧
    a0.toNat + 18446744073709551616 * a1.toNat + 340282366920938463463374607431768211456 * a2.toNat < 6277101735386680763835789423207666416102355444464034512896 ∧
    a0.toNat + 18446744073709551616 * a1.toNat + 340282366920938463463374607431768211456 * a2.toNat + 6277101735386680763835789423207666416102355444464034512896 * a3.toNat < 115792089237316195423570985008687907853269984665640564039457584007913129639936 ∧
    a0.toNat + 18446744073709551616 * a1.toNat + 340282366920938463463374607431768211456 * a2.toNat + 6277101735386680763835789423207666416102355444464034512896 * a3.toNat + 115792089237316195423570985008687907853269984665640564039457584007913129639936 * a4.toNat < 2135987035920910082395021706169552114602704522356652769947041607822219725780640550022962086936576 := by
  have g0 := a0.isLt; have g1 := a1.isLt; have g2 := a2.isLt; have g3 := a3.isLt; have g4 := a4.isLt
  refine ⟨?_, ?_, ?_, ?_, ?_⟩ <;> omega

theorem cmW_nat (a b : W6) : cmW a b < 0 ↔ a.val < b.val := by
  obtain ⟨f0, f1, f2, f3, f4⟩ := low_words a.w0 a.w1 a.w2 a.w3 a.w4
  obtain ⟨g0, g1, g2, g3, g4⟩ := low_words b.w0 b.w1 b.w2 b.w3 b.w4
  rw [cmW_ite]
  exact lex_step f4 g4 (lex_step f3 g3 (lex_step f2 g2 (lex_step f1 g1 (lex_step f0 g0 lex_first))))

theorem subs_lt (m : W6) : (subs m primeW).2 = decide (m.val < pN) := by
  have h1 := subs_nat m primeW
  rw [prime_val] at h1
  have hl := (subs m primeW).1.val_lt
  have hm := m.val_lt
  have hp : pN = 4002409555221667393417789825735904156556882819939007885332058136124031650490837864442687629129015664037894272559787 := rfl
  rw [hp] at h1 ⊢
  cases hb : (subs m primeW).2 with
  | true =>
    rw [hb, show b2n true = 1 from rfl] at h1
    exact (decide_eq_true (by omega)).symm
  | false =>
    rw [hb, show b2n false = 0 from rfl] at h1
    exact (decide_eq_false (by omega)).symm

theorem less_cm (m : W6) : (bif decide (cmW m primeW ≥ 0) then (rsubW m primeW).1 else m) = lessW m := by
  unfold lessW
  rw [subs_lt, rsubW_eq]
  have h := cmW_nat m primeW
  rw [prime_val] at h
  by_cases hm : m.val < pN
  · rw [decide_eq_true hm, decide_eq_false (by have := h.2 hm; omega)]; rfl
  · rw [decide_eq_false hm, decide_eq_true (by have := mt h.1 hm; omega)]; rfl

theorem belowI_nat (a : W6) : belowI a = decide (a.val < pN) := by
  have h := cmW_nat a primeW
  rw [prime_val] at h
  unfold belowI
  rw [show chainV (cmpL a primeW) 0 = cmW a primeW from rfl]
  exact decide_eq_decide.2 h

/-- What is congruent and taken off once. -/
theorem less_mod (m : W6) (h : m.val < 2 * pN) : (lessW m).val = m.val % pN := by
  rw [lessW_nat m h]
  split
  · rename_i hl; exact (Nat.mod_eq_of_lt hl).symm
  · rename_i hn
    generalize pN = p at h hn ⊢
    rw [Nat.mod_eq_sub_mod (by omega), Nat.mod_eq_of_lt (by omega)]

theorem wide_mul {m x Q p R r : Nat} (hr : R * r % p = 1) (h : R * m = x + Q * p) : m % p = x * r % p := by
  have h4 : R * m % p = x % p := by rw [h, Nat.add_mul_mod_self_right]
  have : m * (R * r) % p = m % p := by rw [Nat.mul_mod, hr, Nat.mul_one, Nat.mod_mod]
  rw [← this, show m * (R * r) = R * m * r by rw [← Nat.mul_assoc, Nat.mul_comm m], Nat.mul_mod, h4, ← Nat.mul_mod]

theorem mont_less {R : W8} {f : W6} (h : R.2.1 = 0#64) : (bif R.2.1 != bitW false then (rsubW R.1 f).1 else bif decide (cmW R.1 f ≥ 0) then (rsubW R.1 f).1 else R.1) = (bif decide (cmW R.1 f ≥ 0) then (rsubW R.1 f).1 else R.1) := by
  rw [h]; rfl

theorem montW_nat (a b : W6) (hb : b.val < pN) : (montW fastP a b).val = mulN a.val b.val := by
  obtain ⟨h0, h1, Q, h2⟩ := mtRaw_nat a b hb
  have hm : montW fastP a b = lessW (mtRaw rowW fastP a b).1 := by
    unfold montW
    rw [show fastP.1 = primeW from rfl, mont_less h0, less_cm]
  rw [hm, less_mod _ (Nat.lt_of_lt_of_le h1 (by rw [Nat.two_mul]; exact Nat.add_le_add_right (Nat.le_of_lt hb) _))]
  unfold mulN
  exact wide_mul rinv_ok h2

theorem wide_twice : wideN * rinvN * rinvN % pN = 1 := by decide +kernel
theorem mul_twice {a b r w p : Nat} (h : w * r * r % p = 1) : (a * b * r % p) * w * r % p = a * b % p := by
  rw [Nat.mul_assoc, Nat.mul_mod, Nat.mod_mod, ← Nat.mul_mod, show a * b * r * (w * r) = a * b * (w * r * r) by simp only [Nat.mul_comm, Nat.mul_left_comm], Nat.mul_mod, h, Nat.mul_one, Nat.mod_mod]

/-- The reference's product. -/
theorem rmG_eq (M : Fa → W6 → W6 → W6) (f : Fa) (a b w : W6) (h : f.2.2 = w) : rmG M f a b = M f (M f a b) w := by rw [← h]; rfl
theorem rmulW_two (a b : W6) : rmulW fastP a b = montW fastP (montW fastP a b) wideW := rmG_eq montW fastP a b wideW rfl
theorem rmulW_nat (a b : W6) (hb : b.val < pN) : (rmulW fastP a b).val = a.val * b.val % pN := by
  have h1 := montW_nat a b hb
  have h2 : wideW.val < pN := Nat.lt_of_le_of_lt (Nat.le_of_eq wide_val) wideN_lt
  have h3 := montW_nat (montW fastP a b) wideW h2
  rw [rmulW_two, h3, h1, wide_val]
  unfold mulN
  exact mul_twice wide_twice

theorem rfadd_eq (a b : W6) : rfadd fastP a b = addW a b := by
  unfold rfadd addW
  rw [show fastP.1 = primeW from rfl, less_cm, raddW_eq]

theorem rfadd_nat {a b : W6} (ha : a.val < pN) (hb : b.val < pN) : (rfadd fastP a b).val = (a.val + b.val) % pN := by
  rw [rfadd_eq]
  exact (rep_add ⟨rfl, ha⟩ ⟨rfl, hb⟩).val

theorem rfneg_nat {a : W6} (ha : a.val < pN) : (rfneg fastP a).val = (pN - a.val) % pN := by
  have e : rfneg fastP a = bif eqW a zeroW then a else (rsubW primeW a).1 := rfl
  rw [e]
  cases hz : eqW a zeroW with
  | true =>
    have hz := (eqW_iff a zeroW).1 hz
    subst hz
    rw [cond_true, zero_val, Nat.sub_zero, Nat.mod_self]
  | false =>
    rw [cond_false, rsubW_eq]
    have h1 := subs_nat primeW a
    rw [prime_val] at h1
    have hl := (subs primeW a).1.val_lt
    have hb := b2n_le (subs primeW a).2
    have h0 : a.val ≠ 0 := by
      intro h
      have : a = zeroW := W6.val_inj (by rw [h, zero_val])
      rw [(eqW_iff a zeroW).2 this] at hz
      cases hz
    have hp : pN = 4002409555221667393417789825735904156556882819939007885332058136124031650490837864442687629129015664037894272559787 := rfl
    rw [hp] at h1 ha ⊢
    rw [Nat.mod_eq_of_lt (by omega)]
    generalize b2n (subs primeW a).2 = c at *
    omega

theorem rfsub_nat {a b : W6} (ha : a.val < pN) (hb : b.val < pN) : (rfsub fastP a b).val = (a.val + (pN - b.val) % pN) % pN := by
  unfold rfsub
  have h := rfneg_nat hb
  rw [rfadd_nat ha (by rw [h]; exact Nat.mod_lt _ pN_pos), h]
end Go.Rq

/- The little suites' multiples of their generators. -/
namespace Go.Rq.Sm
open Go Go.Proofs Go.Rq
set_option synthInstance.maxSize 100000

/-- Multiples of a point of prime order, told apart by what is left of their numbers. -/
theorem cyc_inj {P : Type} {ν : Nat → P} {S : P → P → P} {Z : P → Bool} {r : Nat} (hr : 0 < r) (hS : ∀ m n, S (ν m) (ν n) = ν (m + n)) (hZ : ∀ n, Z (ν n) = decide (n % r = 0)) (hm : ∀ n, ν n = ν (n % r)) (m n : Nat) : ν m = ν n ↔ m % r = n % r := by
  constructor
  · intro e
    have e1 : Z (S (ν m) (ν (n * (r - 1)))) = Z (S (ν n) (ν (n * (r - 1)))) := by rw [e]
    have e2 : (n + n * (r - 1)) % r = 0 := by
      have : n + n * (r - 1) = n * r := by
        obtain ⟨q, rfl⟩ : ∃ q, r = q + 1 := ⟨r - 1, by omega⟩
        rw [Nat.add_sub_cancel, Nat.mul_succ, Nat.add_comm]
      rw [this, Nat.mul_mod_left]
    rw [hS, hS, hZ, hZ, e2] at e1
    have e3 : (m + n * (r - 1)) % r = 0 := by simpa using e1
    have h1 : (m + (n + n * (r - 1))) % r = m % r := by rw [Nat.add_mod, e2, Nat.add_zero, Nat.mod_mod]
    have h2 : (m + (n + n * (r - 1))) % r = n % r := by rw [Nat.add_left_comm, Nat.add_mod, e3, Nat.add_zero, Nat.mod_mod]
    rw [← h1, h2]
  · intro e
    rw [hm m, e, ← hm n]
theorem neg_mod (n : Nat) {r : Nat} (hr : 0 < r) : (n + n * (r - 1)) % r = 0 := by
  have : n + n * (r - 1) = n * r := by
    obtain ⟨q, rfl⟩ : ∃ q, r = q + 1 := ⟨r - 1, by omega⟩
    rw [Nat.add_sub_cancel, Nat.mul_succ, Nat.add_comm]
  rw [this, Nat.mul_mod_left]

def suSx : Su → Sx
  | .lit => .li
  | .mid => .mi
def suRn : Su → Nat
  | .lit => 65521
  | .mid => 72057594037927889
theorem suR_nat (s : Su) : (suR s).toNat = suRn s := by cases s <;> rfl
theorem suRn_pos (s : Su) : 0 < suRn s := by cases s <;> decide
theorem suRn_lt (s : Su) : suRn s < 18446744073709551616 := by cases s <;> decide
theorem pr_suR (s : Su) : Pr (suRn s) := by
  cases s
  · exact pr_65521
  · exact pr_72057594037927889
theorem suX_lt (s : Su) : (suX s).toNat < suP s := by cases s <;> decide
theorem suY_lt (s : Su) : (suY s).toNat < suP s := by cases s <;> decide
/-- The generator. -/
def genA (s : Su) : Ap (Fsu s) := ⟨⟨(suX s).toNat, suX_lt s⟩, ⟨(suY s).toNat, suY_lt s⟩, false⟩
theorem genA_wp (s : Su) : wp (genA s) = (suX s, suY s, false) := by
  unfold wp genA
  rw [← fw_of, ← fw_of]
theorem gen_on (s : Su) : onF s (suX s, suY s, false) = true := by cases s <;> kernel_rfl
theorem gen_in (s : Su) : inF s (suX s, suY s, false) = true := by cases s <;> kernel_rfl
theorem genA_pt (s : Su) : Cw.Pt (genA s) := by
  obtain ⟨A, h1, h2⟩ := on_iff.1 (gen_on s)
  rw [← genA_wp] at h1
  rw [wp_inj h1]
  exact h2
abbrev nu (s : Su) (n : Nat) : Ap (Fsu s) := Cw.nsm ivF eqF (genA s) n
theorem nu_pt (s : Su) (n : Nat) : Cw.Pt (nu s n) := Cw.nsm_pt (fdS s) (genA_pt s) n
theorem gen_order (s : Su) : nu s (suRn s) = ⟨0, 0, true⟩ := by
  have h := gen_in s
  unfold inF at h
  rw [gen_on, cond_true, ← genA_wp, lTimes_wp (genA_pt s), suR_nat] at h
  exact (nu_pt s (suRn s)).z h
theorem nu_add (s : Su) (m n : Nat) : Cw.sumW ivF eqF (nu s m) (nu s n) = nu s (m + n) := (Cw.nsm_add (fdS s) (genA_pt s) m n).symm
theorem nu_mul (s : Su) (m n : Nat) : Cw.nsm ivF eqF (nu s m) n = nu s (m * n) := (Cw.nsm_mul (fdS s) (genA_pt s) m n).symm
theorem nu_mod (s : Su) (n : Nat) : nu s n = nu s (n % suRn s) := Cw.nsm_mod (fdS s) (genA_pt s) (gen_order s) n
theorem nu_zero (s : Su) (n : Nat) : (nu s n).zero = decide (n % suRn s = 0) := Cw.nsm_none (fdS s) (genA_pt s) (pr_suR s) (gen_order s) rfl n
theorem nu_none (s : Su) {n : Nat} (h : n % suRn s = 0) : nu s n = ⟨0, 0, true⟩ := (nu_pt s n).z (by rw [nu_zero, h]; rfl)
theorem nu_inj (s : Su) (m n : Nat) : nu s m = nu s n ↔ m % suRn s = n % suRn s :=
  cyc_inj (ν := nu s) (S := Cw.sumW ivF eqF) (Z := fun a => a.zero) (suRn_pos s) (nu_add s) (nu_zero s) (nu_mod s) m n
theorem nu_neg (s : Su) (n : Nat) : negK (nu s n) = nu s (n * (suRn s - 1)) := by
  have h := Cw.sum_cancel (fdS s) (nu_pt s (n * (suRn s - 1))) (nu_pt s n)
  rw [nu_add, nu_none s (n := n * (suRn s - 1) + n) (by rw [Nat.add_comm]; exact neg_mod n (suRn_pos s))] at h
  exact h
/-- The little suite's keys. -/
def phS (s : Su) (n : Nat) : Kz := ((suSx s).int, zPx, wp (nu s n))
theorem phS_kx (s : Su) (n : Nat) : toKx (phS s n) = (suSx s, zPx, wp (nu s n)) := by
  unfold toKx phS
  rw [Sx.of_int]
theorem on_nu (s : Su) (n : Nat) : onF s (wp (nu s n)) = true := on_iff.2 ⟨_, rfl, nu_pt s n⟩
theorem in_nu (s : Su) (n : Nat) : inF s (wp (nu s n)) = true := by
  unfold inF
  rw [on_nu, cond_true, lTimes_wp (nu_pt s n), suR_nat, nu_mul]
  show (nu s (n * suRn s)).zero = true
  rw [nu_zero, Nat.mul_mod_left]; rfl
theorem zPx_is : eqPx zPx = true := rfl
theorem kch_nu (I : Px → Bool) (s : Su) (n : Nat) : kchX I (toKx (phS s n)) = true := by
  rw [phS_kx]
  have h := in_nu s n
  cases s
  · show (bif eqPx zPx then inF .lit (wp (nu .lit n)) else false) = true
    rw [zPx_is, cond_true, h]
  · show (bif eqPx zPx then inF .mid (wp (nu .mid n)) else false) = true
    rw [zPx_is, cond_true, h]
theorem ofW_val (x : BitVec 64) : (ofW x).val = x.toNat := by
  unfold ofW W6.val
  simp
theorem ordX_val (s : Su) : (ordX (suSx s)).val = suRn s := by
  cases s
  · exact ofW_val 65521#64
  · exact ofW_val 72057594037927889#64
theorem cmpX_ge {x o : W6} (h : x.val < o.val) : decide (cmpX x o ≥ 0) = false := by
  have := (cmW_nat x o).2 h
  have e : cmpX x o = cmW x o := rfl
  rw [e, decide_eq_false_iff_not]
  omega
theorem ky1_nu (I : Px → Bool) (s : Su) (n : Nat) {x : W6} (h : x.val < suRn s) : ky1 (kchX I) ordX cmpX x (suSx s, zPx, wp (nu s n)) = 0 := by
  unfold ky1
  rw [← phS_kx, kch_nu, phS_kx]
  dsimp only
  rw [cmpX_ge (by rw [ordX_val]; exact h)]
  simp
theorem ky2_nu (I : Px → Bool) (s : Su) (m n : Nat) : ky2 (kchX I) ordX cmpX zW6 (suSx s, zPx, wp (nu s m)) (suSx s, zPx, wp (nu s n)) = 0 := by
  unfold ky2
  rw [← phS_kx, ← phS_kx, kch_nu, kch_nu, phS_kx, phS_kx]
  dsimp only
  rw [cmpX_ge (by rw [ordX_val]; exact suRn_pos s)]
  simp
theorem w0_val {x : W6} (h : x.val < 18446744073709551616) : x.w0.toNat = x.val := by
  unfold W6.val at h ⊢
  omega
theorem lneg_wp {s : Su} (A : Ap (Fsu s)) : ((wp A).1, lSub s 0#64 (wp A).2.1, (wp A).2.2) = wp (negK A) := by
  unfold wp negK
  rw [← fw_zero (s := s), lSub_fw]
  have e : (0 : Fsu s) - A.y = -A.y := rg [A.y]
  rw [e]
theorem cy_lit (I : Px → Bool) (A1 : Px → Px → Px × Int) (M1 : Px → W6 → Px × Int) (N1 : Px → Px × Int) (s : Su) :
    Cy (fun a => kchX I (toKx a)) (fun i => sorF ordX (Sx.of i)) cmpX (kmuX I M1) (kadX I A1) (kneX I N1) (suSx s).int (suRn s) (phS s) where
  chk n := kch_nu I s n
  sui n := rfl
  cmp x h := by
    have e : (sorF ordX (Sx.of (suSx s).int)).1 = ordX (suSx s) := by rw [Sx.of_int]; cases s <;> rfl
    rw [e]
    exact cmpX_ge (by rw [ordX_val]; exact h)
  mul n x h := by
    unfold kmuX kmuG
    rw [phS_kx, ky1_nu I s n h]
    have e : (lTimes s (wp (nu s n)) x.w0) = wp (nu s (n * x.val)) := by
      rw [lTimes_wp (nu_pt s n), nu_mul, w0_val (Nat.lt_trans h (suRn_lt s))]
    cases s
    · show (((1 : Int), zPx, lTimes .lit (wp (nu .lit n)) x.w0), (0 : Int)) = _
      rw [e]; rfl
    · show (((2 : Int), zPx, lTimes .mid (wp (nu .mid n)) x.w0), (0 : Int)) = _
      rw [e]; rfl
  add m n := by
    unfold kadX kadG
    rw [phS_kx, phS_kx, ky2_nu I s m n]
    have e : lSum s (wp (nu s m)) (wp (nu s n)) = wp (nu s (m + n)) := by
      rw [lSum_wp (nu_pt s m) (nu_pt s n), nu_add]
    cases s
    · show (((1 : Int), zPx, lSum .lit (wp (nu .lit m)) (wp (nu .lit n))), (0 : Int)) = _
      rw [e]; rfl
    · show (((2 : Int), zPx, lSum .mid (wp (nu .mid m)) (wp (nu .mid n))), (0 : Int)) = _
      rw [e]; rfl
  neg n := by
    refine ⟨n * (suRn s - 1), ?_, neg_mod n (suRn_pos s)⟩
    unfold kneX kneG
    rw [phS_kx, ky1_nu I s n (x := zW6) (suRn_pos s)]
    have e := lneg_wp (nu s n)
    rw [nu_neg] at e
    cases s
    · show (((1 : Int), zPx, ((wp (nu .lit n)).1, lSub .lit 0#64 (wp (nu .lit n)).2.1, (wp (nu .lit n)).2.2)), (0 : Int)) = _
      rw [e]; rfl
    · show (((2 : Int), zPx, ((wp (nu .mid n)).1, lSub .mid 0#64 (wp (nu .mid n)).2.1, (wp (nu .mid n)).2.2)), (0 : Int)) = _
      rw [e]; rfl
  inj m n := by
    rw [← nu_inj]
    constructor
    · intro h
      have h : wp (nu s m) = wp (nu s n) := (Prod.mk.inj (Prod.mk.inj h).2).2
      exact wp_inj h
    · intro h
      unfold phS; rw [h]
end Go.Rq.Sm

/- The curves' negations, and the second group's tests: kernel checks. Written by a program of ours. -/
namespace Go.Rq
open Go Go.Proofs

set_option maxRecDepth 100000 in
theorem neg1_run (ck : Ap W6 → Bool) (fi : Fl W6) (inn ou : Ap W6 → Ap W6) (ne : Fl W6 → Ap W6 → Ap W6) (p : Ap W6) :
    (afunR PR (envOf eqsT [(131, fn1 aW.agg kBool ck), (122, fn0 flW.agg fi), (121, fn1 aW.agg aW.agg inn), (124, fn1 aW.agg aW.agg ou), (132, fn2 flW.agg aW.agg aW.agg ne)]) [6] (fun _ => none) 40 92 [aW.agg.enc p]).strict =
    .br (!(ck p)) (.leaf (.tup [.agg (c6.enc zeroW ++ (c6.enc zeroW ++ [.lit false])), .v (.int .i64 5)])) (.leaf (.tup [aW.agg.enc (ou (ne fi (inn p))), .v (.int .i64 0)])) := by kernel_rfl


end Go.Rq

/- The curves' negations, and the second group's tests: contracts. Written by a program of ours. -/
namespace Go.Rq
open Go Go.Proofs

def kPW : Cod (Ap W6 × Int) := kTup aW.agg (kInt .i64) (fun _ => by kernel_rfl) (fun _ => rfl)
theorem noneFlatW : flat (.tup [.agg (c6.enc zeroW ++ (c6.enc zeroW ++ [.lit false])), .v (.int .i64 5)]) = some (kPW.val (⟨zeroW, zeroW, false⟩, 5)) := by kernel_rfl
def negP1 (p : Ap W6) : Ap W6 × Int := bif !(checkP1 p) then (⟨zeroW, zeroW, false⟩, 5) else (outP1 (negE fW (inP1 p)), 0)

def negFW : Fl W6 → Ap W6 → Ap W6 := fun _ p => negE fW p
theorem negFW_ok : CallOk PR 132 (fn2 flW.agg aW.agg aW.agg negFW) := neW_ok

def tt_negp1 : PureTab := [(131, fn1 aW.agg kBool checkP1), (122, fn0 flW.agg fld1), (121, fn1 aW.agg aW.agg inP1), (124, fn1 aW.agg aW.agg outP1), (132, fn2 flW.agg aW.agg aW.agg negFW)]
theorem tt_negp1_ok : TabPOk PR tt_negp1 := TabPOk.cons checkp1_ok (TabPOk.cons first_ok (TabPOk.cons inp1_ok (TabPOk.cons outp1_ok (TabPOk.cons negFW_ok (TabPOk.nil)))))
theorem negp1_ctx : Ctx PR (envOf eqsT tt_negp1) [6] (fun _ => none) 40 92 :=
  ctx_of (envOf_ok eqsT_ok tt_negp1_ok) mixed (fn := Tryz.f92) (by kernel_rfl) (by kernel_rfl) (by kernel_rfl) (tabOk_none _)
theorem negp1_ok : CallOk PR 92 (fn1 aW.agg kPW negP1) :=
  .inl ⟨enters_of (fn := Tryz.f92) (by kernel_rfl) (by kernel_rfl) (by kernel_rfl), pure1 negp1_ctx (fun p => givesOf (neg1_run checkP1 fld1 inP1 outP1 negFW p) (holds_br (B := kPW) (holds_leaf noneFlatW) (holds_leaf (kPW.h1 (outP1 (negE fW (inP1 p)), 0)))))⟩

end Go.Rq

/- Sums of one and of two points: contracts. Written by a program of ours. -/
namespace Go.Rq
open Go Go.Proofs

/-- What the functions on points come to, left open. -/
structure GO (K : Type) where
  on : Fl K → Ap K → Bool
  ra : Fl K → Ap K → Jp K
  ti : Fl K → Jp K → W6 → Jp K
  su : Fl K → Jp K → Jp K → Jp K
  lo : Fl K → Jp K → Ap K

section
variable {K : Type} (t : GO K) (z : K)
def ga1 (f : Fl K) (p : Ap K) (n : W6) : Ap K × Int := bif t.on f p then (t.lo f (t.su f ⟨f.one, f.one, z⟩ (t.ti f (t.ra f p) n)), 0) else (⟨z, z, false⟩, 5)
def ga2 (f : Fl K) (x : Ap K × Ap K) (y : W6 × W6) : Ap K × Int := bif t.on f x.1 then (bif t.on f x.2 then
  (t.lo f (t.su f (t.su f ⟨f.one, f.one, z⟩ (t.ti f (t.ra f x.1) y.1)) (t.ti f (t.ra f x.2) y.2)), 0) else (⟨z, z, false⟩, 5)) else (⟨z, z, false⟩, 5)

/-- Likewise of told points. -/
structure SO (K : Type) where
  be : Ap K → Bool
  fi : Fl K
  inn : Ap K → Ap K
  ou : Ap K → Ap K

variable (s : SO K)
def sm1 (G : Fl K → Ap K → W6 → Ap K × Int) (p : Ap K) (n : W6) : Ap K × Int := bif s.be p then (s.ou (G s.fi (s.inn p) n).1, (G s.fi (s.inn p) n).2) else (⟨z, z, false⟩, 5)
def sm2 (G : Fl K → Ap K × Ap K → W6 × W6 → Ap K × Int) (x : Ap K × Ap K) (y : W6 × W6) : Ap K × Int := bif s.be x.1 then (bif s.be x.2 then
  (s.ou (G s.fi (s.inn x.1, s.inn x.2) y).1, (G s.fi (s.inn x.1, s.inn x.2) y).2) else (⟨z, z, false⟩, 5)) else (⟨z, z, false⟩, 5)
end


def gaTW (t : GO W6) : PureTab := [(163, fn2 flW.agg aW.agg kBool t.on), (166, fn2 flW.agg aW.agg jW.agg t.ra), (165, fn3 flW.agg jW.agg c6.agg jW.agg t.ti),
  (164, fn3 flW.agg jW.agg jW.agg jW.agg t.su), (167, fn2 flW.agg jW.agg aW.agg t.lo)]
noncomputable def gaEW (t : GO W6) : Env := envH eqsT (gaTW t) []
def noneWA : Tree AV := .leaf (.tup [.agg (c6.enc zeroW ++ (c6.enc zeroW ++ [.lit false])), .v (.int .i64 5)])
set_option maxRecDepth 100000 in
theorem ga1_runW (t : GO W6) (f : Fl W6) (p : Ap W6) (n : W6) : (afunH PR (gaEW t) [27] 10 123 [flW.agg.enc f, (SlA.own 13 1).at 0, (SlA.slc 1).at 1] (twoAH aW c6 176 25 p n) 2).strict =
    .br (t.on f p) (.leaf (kPW.enc (t.lo f (t.su f ⟨f.one, f.one, zeroW⟩ (t.ti f (t.ra f p) n)), 0))) noneWA := by kernel_rfl
set_option maxRecDepth 100000 in
theorem ga2_runW (t : GO W6) (f : Fl W6) (p q : Ap W6) (n m : W6) : (afunH PR (gaEW t) [27] 10 123 [flW.agg.enc f, (SlA.own 13 2).at 0, (SlA.slc 2).at 1] (twoAH (CC.prod aW aW) (CC.prod c6 c6) 176 25 (p, q) (n, m)) 2).strict =
    .br (t.on f p) (.br (t.on f q) (.leaf (kPW.enc (t.lo f (t.su f (t.su f ⟨f.one, f.one, zeroW⟩ (t.ti f (t.ra f p) n)) (t.ti f (t.ra f q) m)), 0))) noneWA) noneWA := by kernel_rfl

def suTW (s : SO W6) : PureTab := [(120, fn1 aW.agg kBool s.be), (121, fn1 aW.agg aW.agg s.inn), (122, fn0 flW.agg s.fi), (124, fn1 aW.agg aW.agg s.ou)]
noncomputable def suE1W (s : SO W6) (G : Fl W6 → Ap W6 → W6 → Ap W6 × Int) : Env := envH eqsT (suTW s) [(123, sl3 (.own 13 1) (.slc 1) 176 25 flW.agg aW c6 kPW G)]
noncomputable def suE2W (s : SO W6) (G : Fl W6 → Ap W6 × Ap W6 → W6 × W6 → Ap W6 × Int) : Env := envH eqsT (suTW s) [(123, sl3 (.own 13 2) (.slc 2) 176 25 flW.agg (CC.prod aW aW) (CC.prod c6 c6) kPW G)]
set_option maxRecDepth 100000 in
theorem su1_runW (s : SO W6) (G : Fl W6 → Ap W6 → W6 → Ap W6 × Int) (p : Ap W6) (n : W6) : (afunH PR (suE1W s G) [24] 10 80 [(SlA.slc 1).at 0, (SlA.slc 1).at 1] (twoAH aW c6 30 25 p n) 2).strict =
    .br (s.be p) (.leaf (kPW.enc (s.ou (G s.fi (s.inn p) n).1, (G s.fi (s.inn p) n).2))) noneWA := by kernel_rfl
set_option maxRecDepth 100000 in
theorem su2_runW (s : SO W6) (G : Fl W6 → Ap W6 × Ap W6 → W6 × W6 → Ap W6 × Int) (p q : Ap W6) (n m : W6) : (afunH PR (suE2W s G) [24] 10 80 [(SlA.slc 2).at 0, (SlA.slc 2).at 1] (twoAH (CC.prod aW aW) (CC.prod c6 c6) 30 25 (p, q) (n, m)) 2).strict =
    .br (s.be p) (.br (s.be q) (.leaf (kPW.enc (s.ou (G s.fi (s.inn p, s.inn q) (n, m)).1, (G s.fi (s.inn p, s.inn q) (n, m)).2))) noneWA) noneWA := by kernel_rfl

noncomputable def adEW (G : Ap W6 × Ap W6 → W6 × W6 → Ap W6 × Int) (ofw : BitVec 64 → W6) : Env := envH eqsT [(27, fn1 kU c6.agg ofw)] [(80, sl2 (.slc 2) (.slc 2) 30 25 (CC.prod aW aW) (CC.prod c6 c6) kPW G)]
set_option maxRecDepth 100000 in
theorem ad_runW (G : Ap W6 × Ap W6 → W6 × W6 → Ap W6 × Int) (ofw : BitVec 64 → W6) (p q : Ap W6) : (afunR PR (adEW G ofw) [] (fun _ => none) 10 94 [aW.agg.enc p, aW.agg.enc q]).strict =
    .leaf (kPW.enc (G (p, q) (ofw (bitW true), ofw (bitW true)))) := by kernel_rfl
noncomputable def muEW (G : Ap W6 → W6 → Ap W6 × Int) : Env := envH eqsT [] [(80, sl2 (.slc 1) (.slc 1) 30 25 aW c6 kPW G)]
set_option maxRecDepth 100000 in
theorem mu_runW (G : Ap W6 → W6 → Ap W6 × Int) (p : Ap W6) (n : W6) : (afunR PR (muEW G) [] (fun _ => none) 10 36 [aW.agg.enc p, c6.agg.enc n]).strict =
    .leaf (kPW.enc (G p n)) := by kernel_rfl


end Go.Rq

/- Sums of one and of two points: contracts. Written by a program of ours. -/
namespace Go.Rq
open Go Go.Proofs


def gaOW : GO W6 := ⟨onE fW eqW, raiseJ fW, timesW, sumE fW eqW, lowFW⟩
theorem gaT_okW : TabPOk PR (gaTW gaOW) := TabPOk.cons onW_ok (TabPOk.cons raW_ok (TabPOk.cons tm_okW (TabPOk.cons suW_ok (TabPOk.cons lowFW_ok TabPOk.nil))))
theorem gaE_okW : EnvOk PR (gaEW gaOW) := envH_ok eqsT_ok gaT_okW TabHOk.nil
def gath1W : Fl W6 → Ap W6 → W6 → Ap W6 × Int := ga1 gaOW zeroW
def gath2W : Fl W6 → Ap W6 × Ap W6 → W6 × W6 → Ap W6 × Int := ga2 gaOW zeroW
theorem ga_entW : Enters PR 123 := enters_of (fn := Tryz.f123) (by kernel_rfl) (by kernel_rfl) (by kernel_rfl)
theorem ga1_okW : HeapOk PR 123 (sl3 (.own 13 1) (.slc 1) 176 25 flW.agg aW c6 kPW gath1W) :=
  sl3_ok gaE_okW mixed (sym := [27]) (lf := 10) (fn := Tryz.f123) (c := bodyOf PR 123) (by kernel_rfl) (by kernel_rfl) (by kernel_rfl) (tabOk_none _)
    (fun f p n => givesH (ga1_runW gaOW f p n) (holds_br (B := kPW) (holds_leaf (kPW.h1 _)) (holds_leaf noneFlatW)))
theorem ga2_okW : HeapOk PR 123 (sl3 (.own 13 2) (.slc 2) 176 25 flW.agg (CC.prod aW aW) (CC.prod c6 c6) kPW gath2W) :=
  sl3_ok gaE_okW mixed (sym := [27]) (lf := 10) (fn := Tryz.f123) (c := bodyOf PR 123) (by kernel_rfl) (by kernel_rfl) (by kernel_rfl) (tabOk_none _)
    (fun f p n => givesH (ga2_runW gaOW f p.1 p.2 n.1 n.2) (holds_br (B := kPW) (holds_br (B := kPW) (holds_leaf (kPW.h1 _)) (holds_leaf noneFlatW)) (holds_leaf noneFlatW)))

def suOW : SO W6 := ⟨belowP1, fld1, inP1, outP1⟩
theorem suT_okW : TabPOk PR (suTW suOW) := TabPOk.cons belowp1_ok (TabPOk.cons inp1_ok (TabPOk.cons first_ok (TabPOk.cons outp1_ok TabPOk.nil)))
def sumP1W : Ap W6 → W6 → Ap W6 × Int := sm1 zeroW suOW gath1W
def sumP2W : Ap W6 × Ap W6 → W6 × W6 → Ap W6 × Int := sm2 zeroW suOW gath2W
theorem su_entW : Enters PR 80 := enters_of (fn := Tryz.f80) (by kernel_rfl) (by kernel_rfl) (by kernel_rfl)
theorem su1_okW : HeapOk PR 80 (sl2 (.slc 1) (.slc 1) 30 25 aW c6 kPW sumP1W) :=
  sl2_ok (E := suE1W suOW gath1W) (envH_ok eqsT_ok suT_okW (TabHOk.cons ga_entW ga1_okW TabHOk.nil)) mixed (sym := [24]) (lf := 10) (fn := Tryz.f80) (c := bodyOf PR 80) (by kernel_rfl) (by kernel_rfl) (by kernel_rfl) (tabOk_none _)
    (fun p n => givesH (su1_runW suOW gath1W p n) (holds_br (B := kPW) (holds_leaf (kPW.h1 _)) (holds_leaf noneFlatW)))
theorem su2_okW : HeapOk PR 80 (sl2 (.slc 2) (.slc 2) 30 25 (CC.prod aW aW) (CC.prod c6 c6) kPW sumP2W) :=
  sl2_ok (E := suE2W suOW gath2W) (envH_ok eqsT_ok suT_okW (TabHOk.cons ga_entW ga2_okW TabHOk.nil)) mixed (sym := [24]) (lf := 10) (fn := Tryz.f80) (c := bodyOf PR 80) (by kernel_rfl) (by kernel_rfl) (by kernel_rfl) (tabOk_none _)
    (fun p n => givesH (su2_runW suOW gath2W p.1 p.2 n.1 n.2) (holds_br (B := kPW) (holds_br (B := kPW) (holds_leaf (kPW.h1 _)) (holds_leaf noneFlatW)) (holds_leaf noneFlatW)))

def addP1 (p q : Ap W6) : Ap W6 × Int := sumP2W (p, q) (ofW (bitW true), ofW (bitW true))
theorem adE_okW : EnvOk PR (adEW sumP2W ofW) := envH_ok eqsT_ok (TabPOk.cons of_ok TabPOk.nil) (TabHOk.cons su_entW su2_okW TabHOk.nil)
theorem ad_ctxW : Ctx PR (adEW sumP2W ofW) [] (fun _ => none) 10 94 :=
  ctx_of adE_okW mixed (fn := Tryz.f94) (by kernel_rfl) (by kernel_rfl) (by kernel_rfl) (tabOk_none _)
theorem addp1_ok : CallOk PR 94 (fn2 aW.agg aW.agg kPW addP1) :=
  .inl ⟨enters_of (fn := Tryz.f94) (by kernel_rfl) (by kernel_rfl) (by kernel_rfl), pure2 ad_ctxW (fun p q => leafVal (B := kPW) (y := addP1 p q) (ad_runW sumP2W ofW p q))⟩
theorem muE_okW : EnvOk PR (muEW sumP1W) := envH_ok eqsT_ok TabPOk.nil (TabHOk.cons su_entW su1_okW TabHOk.nil)
theorem mu_ctxW : Ctx PR (muEW sumP1W) [] (fun _ => none) 10 36 :=
  ctx_of muE_okW mixed (fn := Tryz.f36) (by kernel_rfl) (by kernel_rfl) (by kernel_rfl) (tabOk_none _)
theorem mulp1_ok : CallOk PR 36 (fn2 aW.agg c6.agg kPW sumP1W) :=
  .inl ⟨enters_of (fn := Tryz.f36) (by kernel_rfl) (by kernel_rfl) (by kernel_rfl), pure2 mu_ctxW (fun p n => leafVal (B := kPW) (y := sumP1W p n) (mu_runW sumP1W p n))⟩


end Go.Rq

/- What the program's functions on points come to, reckoned with numbers. -/
namespace Go.Rq
open Go Go.Proofs

section
variable {A B : Type} {R : A → B → Prop} {o : FO A} {o' : FO B} {e : A → A → Bool} {e' : B → B → Bool}

def tOf {K : Type} (o : FO K) (e : K → K → Bool) : TO K := ⟨fun _ p => twiceJ o p, sumE o e, lenI, bitI⟩
def gOf {K : Type} (o : FO K) (e : K → K → Bool) (ti : Fl K → Jp K → W6 → Jp K) : GO K := ⟨onE o e, raiseJ o, ti, sumE o e, fun _ p => lowerE o e p⟩

theorem times_rel (h : FRel R o o' e e') {f : Fl A} {g : Fl B} (hf : RFl R f g) {p : Jp A} {q : Jp B} (hp : RJ R p q) (n : W6) : ∀ (k : Nat) {u : Jp A} {v : Jp B}, RJ R u v →
    RJ R (timesG (tOf o e) f p n k u) (timesG (tOf o' e') g q n k v)
  | 0, u, v, hu => hu
  | k + 1, u, v, hu => by
    show RJ R (timesG (tOf o e) f p n k (bif bitI n (k : Int) == 1 then sumE o e f (twiceJ o u) p else twiceJ o u)) (timesG (tOf o' e') g q n k (bif bitI n (k : Int) == 1 then sumE o' e' g (twiceJ o' v) q else twiceJ o' v))
    apply times_rel h hf hp n k
    cases bitI n (k : Int) == 1
    · exact twice_rel h hu
    · exact sum_rel h hf (twice_rel h hu) hp

/-- The functions on points go alike. -/
structure GRel (R : A → B → Prop) (t : GO A) (s : GO B) : Prop where
  on : ∀ {f g p q}, RFl R f g → RA R p q → t.on f p = s.on g q
  ra : ∀ {f g p q}, RFl R f g → RA R p q → RJ R (t.ra f p) (s.ra g q)
  ti : ∀ {f g p q}, RFl R f g → RJ R p q → ∀ n, RJ R (t.ti f p n) (s.ti g q n)
  su : ∀ {f g p q u v}, RFl R f g → RJ R p q → RJ R u v → RJ R (t.su f p u) (s.su g q v)
  lo : ∀ {f g p q}, RFl R f g → RJ R p q → RA R (t.lo f p) (s.lo g q)

theorem g_rel (h : FRel R o o' e e') {ti : Fl A → Jp A → W6 → Jp A} {ti' : Fl B → Jp B → W6 → Jp B} (ht : ∀ {f g p q}, RFl R f g → RJ R p q → ∀ n, RJ R (ti f p n) (ti' g q n)) : GRel R (gOf o e ti) (gOf o' e' ti') :=
  ⟨fun hf hp => on_rel h hf hp, fun hf hp => raise_rel h hf hp, ht, fun hf hp hu => sum_rel h hf hp hu, fun _ hp => lower_rel h hp⟩

theorem ga1_rel {t : GO A} {s : GO B} (h : GRel R t s) {z : A} {z' : B} (hz : R z z') {f : Fl A} {g : Fl B} (hf : RFl R f g) {p : Ap A} {q : Ap B} (hp : RA R p q) (n : W6) :
    RA R (ga1 t z f p n).1 (ga1 s z' g q n).1 ∧ (ga1 t z f p n).2 = (ga1 s z' g q n).2 := by
  unfold ga1
  rw [h.on hf hp]
  cases s.on g q
  · exact ⟨⟨hz, hz, rfl⟩, rfl⟩
  · exact ⟨h.lo hf (h.su hf ⟨hf.one, hf.one, hz⟩ (h.ti hf (h.ra hf hp) n)), rfl⟩

theorem ga2_rel {t : GO A} {s : GO B} (h : GRel R t s) {z : A} {z' : B} (hz : R z z') {f : Fl A} {g : Fl B} (hf : RFl R f g) {x : Ap A × Ap A} {y : Ap B × Ap B} (h1 : RA R x.1 y.1) (h2 : RA R x.2 y.2) (n : W6 × W6) :
    RA R (ga2 t z f x n).1 (ga2 s z' g y n).1 ∧ (ga2 t z f x n).2 = (ga2 s z' g y n).2 := by
  unfold ga2
  rw [h.on hf h1, h.on hf h2]
  cases s.on g y.1
  · exact ⟨⟨hz, hz, rfl⟩, rfl⟩
  · cases s.on g y.2
    · exact ⟨⟨hz, hz, rfl⟩, rfl⟩
    · exact ⟨h.lo hf (h.su hf (h.su hf ⟨hf.one, hf.one, hz⟩ (h.ti hf (h.ra hf h1) n.1)) (h.ti hf (h.ra hf h2) n.2)), rfl⟩
end

/-! Multiples, reckoned step by step. -/

def forceJ {α : Type} (r : Jp Nat) (f : Jp Nat → α) : α := forceN r.x fun x => forceN r.y fun y => forceN r.z fun z => f ⟨x, y, z⟩
theorem forceJ_eq {α : Type} (r : Jp Nat) (f : Jp Nat → α) : forceJ r f = f r := by simp only [forceJ, forceN_eq]
def stepG {K : Type} (o : FO K) (e : K → K → Bool) (f : Fl K) (p : Jp K) (b : Bool) (u : Jp K) : Jp K := bif b then sumE o e f (twiceJ o u) p else twiceJ o u

/-- A multiple; a point is reckoned whole at each bit. -/
def runN {K : Type} (fo : Jp K → (Jp K → Jp K) → Jp K) (st : Bool → Jp K → Jp K) : List Bool → Jp K → Jp K
  | [], u => u
  | b :: t, u => fo (st b u) fun v => runN fo st t v

def bitsL (n : W6) : Nat → List Bool
  | 0 => []
  | k + 1 => (bitI n (k : Int) == 1) :: bitsL n k

theorem runN_eq {K : Type} {o : FO K} {e : K → K → Bool} {fo : Jp K → (Jp K → Jp K) → Jp K} (hfo : ∀ r f, fo r f = f r) (f : Fl K) (p : Jp K) (n : W6) : ∀ (k : Nat) (u : Jp K),
    runN fo (stepG o e f p) (bitsL n k) u = timesG (tOf o e) f p n k u
  | 0, u => rfl
  | k + 1, u => by
    simp only [bitsL, runN, hfo]
    exact runN_eq hfo f p n k _

def timesN (f : Fl Nat) (p : Jp Nat) (n : W6) : Jp Nat := runN forceJ (stepG fN Nat.beq f p) (bitsL n (lenI n).toNat) ⟨f.one, f.one, 0⟩
theorem timesN_rel {f : Fl Nat} {g : Fl W6} {p : Jp Nat} {q : Jp W6} (hf : RFl Rep f g) (hp : RJ Rep p q) (n : W6) : RJ Rep (timesN f p n) (timesW g q n) := by
  unfold timesN timesW
  rw [runN_eq (o := fN) (e := Nat.beq) forceJ_eq]
  exact times_rel relW hf hp n _ ⟨hf.one, hf.one, rep_zero⟩
def gN : GO Nat := gOf fN Nat.beq timesN
theorem gN_rel : GRel Rep gN gaOW := g_rel relW timesN_rel
def flN : Fl Nat := ⟨oneN, toN 4⟩
theorem four_val : (ofW 4#64).val = 4 := by decide +kernel
theorem four_rep : Rep (toN 4) (toW (ofW 4#64)) := by
  have := rep_to (ofW 4#64)
  rw [four_val] at this
  exact this
theorem flN_rel : RFl Rep flN fld1 := ⟨rep_one, four_rep⟩
def inN (p : Ap W6) : Ap Nat := ⟨toN p.x.val, toN p.y.val, p.zero⟩
theorem inP_rel (t : Nat → Nat) (t' : W6 → W6) (h : ∀ a : W6, Rep (t a.val) (t' a)) (p : Ap W6) : RA Rep ⟨t p.x.val, t p.y.val, p.zero⟩ ⟨t' p.x, t' p.y, p.zero⟩ := ⟨h _, h _, rfl⟩
theorem inN_rel (p : Ap W6) : RA Rep (inN p) (inP1 p) := by
  unfold inN inP1
  exact inP_rel toN toW rep_to p
/-- A point that is told again. -/
theorem outN_eq {p : Ap Nat} {q r : Ap W6} (h : RA Rep p q) (hx : backN p.x = r.x.val) (hy : backN p.y = r.y.val) (hz : p.zero = r.zero) : outP1 q = r := by
  obtain ⟨rx, ry, rz⟩ := r
  have e1 : fromW q.x = rx := W6.val_inj (by rw [rep_back h.x]; exact hx)
  have e2 : fromW q.y = ry := W6.val_inj (by rw [rep_back h.y]; exact hy)
  unfold outP1
  rw [e1, e2, ← h.z, hz]
/-! What is reckoned, and what is told. -/
def tellN (x : Ap Nat × Int) : Ap Nat × Int := (⟨backN x.1.x, backN x.1.y, x.1.zero⟩, x.2)
def litN (r : Ap W6) : Ap Nat := ⟨r.x.val, r.y.val, r.zero⟩
theorem mul1_of {p r : Ap W6} {n : W6} {err : Int} (hb : belowP1 p = true) (h : tellN (ga1 gN 0 flN (inN p) n) = (litN r, err)) : sumP1W p n = (r, err) := by
  obtain ⟨h1, h2⟩ := ga1_rel gN_rel rep_zero flN_rel (inN_rel p) n
  have e := Prod.mk.inj h
  obtain ⟨e1, e2⟩ := e
  have e3 := Ap.mk.inj e1
  have ho := outN_eq (r := r) h1 e3.1 e3.2.1 e3.2.2
  have hs : sumP1W p n = bif belowP1 p then (outP1 (gath1W fld1 (inP1 p) n).1, (gath1W fld1 (inP1 p) n).2) else (⟨zeroW, zeroW, false⟩, 5) := by unfold sumP1W sm1 suOW; rfl
  rw [hs, hb, cond_true]
  have hg : gath1W fld1 (inP1 p) n = ga1 gaOW zeroW fld1 (inP1 p) n := by unfold gath1W; rfl
  rw [hg, ho, ← h2]
  exact congrArg (Prod.mk r) e2

theorem check1_of (p : Ap W6) : checkP1 p = bif belowP1 p then onE fN Nat.beq flN (inN p) else false := by
  unfold checkP1
  rw [on_rel relW flN_rel (inN_rel p)]
end Go.Rq

/- Numbers out of text: gone through where they are called. -/
namespace Go.Rq
open Go Go.Proofs

theorem ibs_ok : CallOk PR 202 (fn2 kStr (kInt .u8) (kInt .i64) idxByte) :=
  .inr (ext2 (fn := Tryz.f202) (by kernel_rfl) (by kernel_rfl) (by kernel_rfl) (by kernel_rfl) (r := Extern.BytealgIndexByte.indexByte) (by kernel_rfl) idxByte_run)
theorem ib1_run (X : ByteArray → Int → Int) (s : ByteArray) (b : Int) : (afunR PR (envOf eqsT [(202, fn2 kStr (kInt .u8) (kInt .i64) X)]) [] (fun _ => none) 40 184 [kStr.enc s, (kInt .u8).enc b]).strict = .leaf ((kInt .i64).enc (X s b)) := by kernel_rfl
theorem ib2_run (X : ByteArray → Int → Int) (s : ByteArray) (b : Int) : (afunR PR (envOf eqsT [(184, fn2 kStr (kInt .u8) (kInt .i64) X)]) [] (fun _ => none) 40 155 [kStr.enc s, (kInt .u8).enc b]).strict = .leaf ((kInt .i64).enc (X s b)) := by kernel_rfl
def ib1T : PureTab := [(202, fn2 kStr (kInt .u8) (kInt .i64) idxByte)]
theorem ib1T_ok : TabPOk PR ib1T := TabPOk.cons ibs_ok TabPOk.nil
theorem ib1_ctx : Ctx PR (envOf eqsT ib1T) [] (fun _ => none) 40 184 :=
  ctx_of (envOf_ok eqsT_ok ib1T_ok) mixed (fn := Tryz.f184) (by kernel_rfl) (by kernel_rfl) (by kernel_rfl) (tabOk_none _)
theorem ib1_ok : CallOk PR 184 (fn2 kStr (kInt .u8) (kInt .i64) idxByte) :=
  .inl ⟨enters_of (fn := Tryz.f184) (by kernel_rfl) (by kernel_rfl) (by kernel_rfl), pure2 ib1_ctx (fun s b => leafVal (B := kInt .i64) (y := idxByte s b) (ib1_run idxByte s b))⟩
def ib2T : PureTab := [(184, fn2 kStr (kInt .u8) (kInt .i64) idxByte)]
theorem ib2T_ok : TabPOk PR ib2T := TabPOk.cons ib1_ok TabPOk.nil
theorem ib2_ctx : Ctx PR (envOf eqsT ib2T) [] (fun _ => none) 40 155 :=
  ctx_of (envOf_ok eqsT_ok ib2T_ok) mixed (fn := Tryz.f155) (by kernel_rfl) (by kernel_rfl) (by kernel_rfl) (tabOk_none _)
theorem ib2_ok : CallOk PR 155 (fn2 kStr (kInt .u8) (kInt .i64) idxByte) :=
  .inl ⟨enters_of (fn := Tryz.f155) (by kernel_rfl) (by kernel_rfl) (by kernel_rfl), pure2 ib2_ctx (fun s b => leafVal (B := kInt .i64) (y := idxByte s b) (ib2_run idxByte s b))⟩
end Go.Rq

/- Numbers out of text: shift by four; the text's digits; a generator's number is gone through where it is told. -/
namespace Go.Rq
open Go Go.Proofs
def shift4 (a : W6) : W6 := ⟨a.w0 <<< 4, a.w1 <<< 4 ||| a.w0 >>> 60, a.w2 <<< 4 ||| a.w1 >>> 60, a.w3 <<< 4 ||| a.w2 >>> 60, a.w4 <<< 4 ||| a.w3 >>> 60, a.w5 <<< 4 ||| a.w4 >>> 60⟩
set_option maxRecDepth 100000 in
theorem shift4_run (a : W6) : (afunR PR (envOf eqsT []) [] (fun _ => none) 40 75 [c6.agg.enc a, (kInt .i64).enc 4]).strict = .leaf (c6.agg.enc (shift4 a)) := by kernel_rfl

/-- One number alone. -/
def kAt (k : IntKind) (n : Int) : Cod Unit where
  enc _ := .v (.int k n)
  dec a := match a with
    | .v (.int k' m) => match decide (k' = k ∧ m = n) with
      | true => some ()
      | false => none
    | _ => none
  val _ := .int k n
  h1 _ := rfl
  h2 ρ a v x h r := by
    split at h
    · rename_i k' m
      split at h
      · rename_i e
        obtain ⟨rfl, rfl⟩ := of_decide_eq_true e
        cases r
        rfl
      · cases h
    · cases h

theorem shift_ctx : Ctx PR (envOf eqsT []) [] (fun _ => none) 40 75 :=
  ctx_of (envOf_ok eqsT_ok TabPOk.nil) mixed (fn := Tryz.f75) (by kernel_rfl) (by kernel_rfl) (by kernel_rfl) (tabOk_none _)
theorem shift_ok : CallOk PR 75 (fn2 c6.agg (kAt .i64 4) c6.agg (fun a _ => shift4 a)) :=
  .inl ⟨enters_of (fn := Tryz.f75) (by kernel_rfl) (by kernel_rfl) (by kernel_rfl), pure2 (C := kAt .i64 4) shift_ctx (fun a _ => leafVal (B := c6.agg) (y := shift4 a) (shift4_run a))⟩

def parseT : PureTab := [(75, fn2 c6.agg (kAt .i64 4) c6.agg (fun a _ => shift4 a)), (155, fn2 kStr (kInt .u8) (kInt .i64) idxByte)]
theorem parseT_ok : TabPOk PR parseT := TabPOk.cons shift_ok (TabPOk.cons ib2_ok TabPOk.nil)
theorem parse_ctx : Ctx PR (envOf eqsT parseT) [] (fun _ => none) 110 119 :=
  ctx_of (envOf_ok eqsT_ok parseT_ok) mixed (fn := Tryz.f119) (by kernel_rfl) (by kernel_rfl) (by kernel_rfl) (tabOk_none _)
end Go.Rq
