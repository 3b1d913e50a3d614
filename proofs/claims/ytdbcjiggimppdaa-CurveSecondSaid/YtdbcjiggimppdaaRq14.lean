/- The reference's arithmetic of the great prime, as numbers. -/
import Derived.Test.YtdbcjiggimppdaaRq12
import Derived.Test.YtdbcjiggimppdaaRq13
import Derived.Test.YtdbcjiggimppdaaRq08
import Derived.Test.YtdbcjiggimppdaaRq09
namespace Go.Rq
open Go Go.Proofs

/-! A row of a product. -/
theorem rowW_eq {t : W8} {a : BitVec 64} {b : W6} {r0 r1 r2 r3 r4 r5 : BitVec 64 × BitVec 64} {s : BitVec 64 × Bool}
    (h0 : mac a b.w0 t.1.w0 (bitW false) = r0) (h1 : mac a b.w1 t.1.w1 r0.2 = r1) (h2 : mac a b.w2 t.1.w2 r1.2 = r2) (h3 : mac a b.w3 t.1.w3 r2.2 = r3) (h4 : mac a b.w4 t.1.w4 r3.2 = r4) (h5 : mac a b.w5 t.1.w5 r4.2 = r5)
    (hs : add64 t.2.1 r5.2 false = s) : rowW t a b = (⟨r0.1, r1.1, r2.1, r3.1, r4.1, r5.1⟩, s.1, t.2.2 + bitW s.2) := by
  subst h0 h1 h2 h3 h4 h5 hs
  rfl

theorem row_sum {p0 t0 r0 c0 p1 t1 r1 c1 p2 t2 r2 c2 p3 t3 r3 c3 p4 t4 r4 c4 p5 t5 r5 c5 w s k : Nat} (e0 : r0 + 18446744073709551616 * c0 = p0 + t0) (e1 : r1 + 18446744073709551616 * c1 = p1 + t1 + c0) (e2 : r2 + 18446744073709551616 * c2 = p2 + t2 + c1) (e3 : r3 + 18446744073709551616 * c3 = p3 + t3 + c2) (e4 : r4 + 18446744073709551616 * c4 = p4 + t4 + c3) (e5 : r5 + 18446744073709551616 * c5 = p5 + t5 + c4) (e6 : s + 18446744073709551616 * k = w + c5) :
    (r0 + 18446744073709551616 * r1 + 340282366920938463463374607431768211456 * r2 + 6277101735386680763835789423207666416102355444464034512896 * r3 + 115792089237316195423570985008687907853269984665640564039457584007913129639936 * r4 + 2135987035920910082395021706169552114602704522356652769947041607822219725780640550022962086936576 * r5) + 39402006196394479212279040100143613805079739270465446667948293404245721771497210611414266254884915640806627990306816 * s + 726838724295606890549323807888004534353641360687318060281490199180639288113397923326191050713763565560762521606266177933534601628614656 * k =
    (t0 + 18446744073709551616 * t1 + 340282366920938463463374607431768211456 * t2 + 6277101735386680763835789423207666416102355444464034512896 * t3 + 115792089237316195423570985008687907853269984665640564039457584007913129639936 * t4 + 2135987035920910082395021706169552114602704522356652769947041607822219725780640550022962086936576 * t5) + 39402006196394479212279040100143613805079739270465446667948293404245721771497210611414266254884915640806627990306816 * w +
    (p0 + 18446744073709551616 * p1 + 340282366920938463463374607431768211456 * p2 + 6277101735386680763835789423207666416102355444464034512896 * p3 + 115792089237316195423570985008687907853269984665640564039457584007913129639936 * p4 + 2135987035920910082395021706169552114602704522356652769947041607822219725780640550022962086936576 * p5) := by
  omega

theorem row_nat (t : W8) (a : BitVec 64) (b : W6) : ∃ c : Bool,
    (rowW t a b).1.val + 39402006196394479212279040100143613805079739270465446667948293404245721771497210611414266254884915640806627990306816 * (rowW t a b).2.1.toNat + 726838724295606890549323807888004534353641360687318060281490199180639288113397923326191050713763565560762521606266177933534601628614656 * b2n c =
      t.1.val + 39402006196394479212279040100143613805079739270465446667948293404245721771497210611414266254884915640806627990306816 * t.2.1.toNat + a.toNat * b.val ∧
    (rowW t a b).2.2 = t.2.2 + bitW c ∧ ∃ k, (rowW t a b).1.w0.toNat + 18446744073709551616 * k = a.toNat * b.w0.toNat + t.1.w0.toNat := by
  obtain ⟨r0, hr0⟩ : ∃ r, mac a b.w0 t.1.w0 (bitW false) = r := ⟨_, rfl⟩
  obtain ⟨r1, hr1⟩ : ∃ r, mac a b.w1 t.1.w1 r0.2 = r := ⟨_, rfl⟩
  obtain ⟨r2, hr2⟩ : ∃ r, mac a b.w2 t.1.w2 r1.2 = r := ⟨_, rfl⟩
  obtain ⟨r3, hr3⟩ : ∃ r, mac a b.w3 t.1.w3 r2.2 = r := ⟨_, rfl⟩
  obtain ⟨r4, hr4⟩ : ∃ r, mac a b.w4 t.1.w4 r3.2 = r := ⟨_, rfl⟩
  obtain ⟨r5, hr5⟩ : ∃ r, mac a b.w5 t.1.w5 r4.2 = r := ⟨_, rfl⟩
  obtain ⟨s, hs⟩ : ∃ s, add64 t.2.1 r5.2 false = s := ⟨_, rfl⟩
  have hres := rowW_eq hr0 hr1 hr2 hr3 hr4 hr5 hs
  have e0 := mac_nat a b.w0 t.1.w0 (bitW false)
  rw [hr0, show (bitW false).toNat = 0 from rfl, Nat.add_zero] at e0
  have e1 := mac_nat a b.w1 t.1.w1 r0.2
  rw [hr1] at e1
  have e2 := mac_nat a b.w2 t.1.w2 r1.2
  rw [hr2] at e2
  have e3 := mac_nat a b.w3 t.1.w3 r2.2
  rw [hr3] at e3
  have e4 := mac_nat a b.w4 t.1.w4 r3.2
  rw [hr4] at e4
  have e5 := mac_nat a b.w5 t.1.w5 r4.2
  rw [hr5] at e5
  have e6 := add64_nat t.2.1 r5.2 false
  rw [hs, show b2n false = 0 from rfl, Nat.add_zero] at e6
  have sum := row_sum e0 e1 e2 e3 e4 e5 e6
  rw [← val_mul a.toNat b] at sum
  refine ⟨s.2, ?_, ?_, r0.2.toNat, ?_⟩
  · rw [hres]; exact sum
  · rw [hres]
  · rw [hres]; exact e0

/-! A round. -/
theorem mt_low {u q p k v0 : Nat} (hq : q * p % 18446744073709551616 = u * 18446744073709551615 % 18446744073709551616) (hv : v0 < 18446744073709551616) (h : v0 + 18446744073709551616 * k = q * p + u) : v0 = 0 := by
  generalize q * p = x at hq h
  omega

theorem mt_end {B T xB U u6 c Q V v6 d : Nat} (hb : B < 4002409555221667393417789825735904156556882819939007885332058136124031650490837864442687629129015664037894272559787) (ht : T < B + 4002409555221667393417789825735904156556882819939007885332058136124031650490837864442687629129015664037894272559787)
    (hx : xB ≤ 18446744073709551615 * B) (hq : Q < 18446744073709551616)
    (hu : U + 39402006196394479212279040100143613805079739270465446667948293404245721771497210611414266254884915640806627990306816 * u6 + 726838724295606890549323807888004534353641360687318060281490199180639288113397923326191050713763565560762521606266177933534601628614656 * c = T + xB)
    (hv : V + 39402006196394479212279040100143613805079739270465446667948293404245721771497210611414266254884915640806627990306816 * v6 + 726838724295606890549323807888004534353641360687318060281490199180639288113397923326191050713763565560762521606266177933534601628614656 * d = U + 39402006196394479212279040100143613805079739270465446667948293404245721771497210611414266254884915640806627990306816 * u6 + Q * 4002409555221667393417789825735904156556882819939007885332058136124031650490837864442687629129015664037894272559787) :
    c = 0 ∧ d = 0 ∧ V + 39402006196394479212279040100143613805079739270465446667948293404245721771497210611414266254884915640806627990306816 * v6 = xB + T + Q * 4002409555221667393417789825735904156556882819939007885332058136124031650490837864442687629129015664037894272559787 ∧
      V + 39402006196394479212279040100143613805079739270465446667948293404245721771497210611414266254884915640806627990306816 * v6 < 18446744073709551616 * (B + 4002409555221667393417789825735904156556882819939007885332058136124031650490837864442687629129015664037894272559787) := by
  have hc : c = 0 := by omega
  subst hc
  have hd : d = 0 := by omega
  subst hd
  refine ⟨rfl, rfl, ?_, ?_⟩ <;> omega

theorem b2n_zero {c : Bool} (h : b2n c = 0) : c = false := by cases c with
  | false => rfl
  | true => cases h

theorem mt_round (b : W6) (x : BitVec 64) (t : W8) (h1 : t.2.1 = 0#64) (h2 : t.2.2 = 0#64) (hb : b.val < pN) (ht : t.1.val < b.val + pN) :
    ∃ q : Nat, (mtRound rowW fastP b x t).2.1 = 0#64 ∧ (mtRound rowW fastP b x t).2.2 = 0#64 ∧ (mtRound rowW fastP b x t).1.val < b.val + pN ∧ 18446744073709551616 * (mtRound rowW fastP b x t).1.val = x.toNat * b.val + t.1.val + q * pN := by
  obtain ⟨u, hue⟩ : ∃ u, rowW t x b = u := ⟨_, rfl⟩
  obtain ⟨v, hve⟩ : ∃ v, rowW u (u.1.w0 * 9940570264628428797#64) primeW = v := ⟨_, rfl⟩
  have hres : mtRound rowW fastP b x t = (⟨v.1.w1, v.1.w2, v.1.w3, v.1.w4, v.1.w5, v.2.1⟩, v.2.2, bitW false) := by
    subst hve hue
    rfl
  obtain ⟨c, hu, hc, -⟩ := row_nat t x b
  obtain ⟨d, hv, hd, k, hl⟩ := row_nat u (u.1.w0 * 9940570264628428797#64) primeW
  rw [hue] at hu hc
  rw [hve] at hv hd hl
  have hq := neg_inv u.1.w0
  rw [BitVec.toNat_mul] at hq
  have z := mt_low hq v.1.w0.isLt hl
  rw [prime_val] at hv
  rw [h1, show (0#64).toNat = 0 from rfl, Nat.mul_zero, Nat.add_zero] at hu
  have xB : x.toNat * b.val ≤ 18446744073709551615 * b.val := Nat.mul_le_mul_right _ (Nat.le_of_lt_succ x.isLt)
  obtain ⟨c0, d0, e1, e2⟩ := mt_end (c := b2n c) (d := b2n d) hb ht xB (u.1.w0 * 9940570264628428797#64).isLt hu hv
  have c0 := b2n_zero c0
  have d0 := b2n_zero d0
  subst c0 d0
  rw [h2] at hc
  rw [hc] at hd
  refine ⟨(u.1.w0 * 9940570264628428797#64).toNat, ?_, ?_, ?_⟩
  · rw [hres]
    show v.2.2 = 0#64
    rw [hd]; rfl
  · rw [hres]; rfl
  · rw [hres]
    have hp : pN = 4002409555221667393417789825735904156556882819939007885332058136124031650490837864442687629129015664037894272559787 := rfl
    rw [hp]
    show (W6.mk v.1.w1 v.1.w2 v.1.w3 v.1.w4 v.1.w5 v.2.1).val < _ ∧ 18446744073709551616 * (W6.mk v.1.w1 v.1.w2 v.1.w3 v.1.w4 v.1.w5 v.2.1).val = _
    have hval : 18446744073709551616 * (W6.mk v.1.w1 v.1.w2 v.1.w3 v.1.w4 v.1.w5 v.2.1).val = v.1.val + 39402006196394479212279040100143613805079739270465446667948293404245721771497210611414266254884915640806627990306816 * v.2.1.toNat := by
      simp only [W6.val]
      omega
    rw [hval]
    refine ⟨?_, e1⟩
    rw [← hval] at e2
    exact Nat.lt_of_mul_lt_mul_left e2

theorem mtRaw_nat (a b : W6) (hb : b.val < pN) : (mtRaw rowW fastP a b).2.1 = 0#64 ∧ (mtRaw rowW fastP a b).1.val < b.val + pN ∧ ∃ Q, 39402006196394479212279040100143613805079739270465446667948293404245721771497210611414266254884915640806627990306816 * (mtRaw rowW fastP a b).1.val = a.val * b.val + Q * pN := by
  have zv : zero8.1.val = 0 := rfl
  have hp : pN = 4002409555221667393417789825735904156556882819939007885332058136124031650490837864442687629129015664037894272559787 := rfl
  unfold mtRaw
  obtain ⟨q1, y1, w1, l1, h1⟩ := mt_round b a.w0 zero8 rfl rfl hb (by rw [zv]; exact Nat.lt_of_lt_of_le (by decide +kernel : 0 < pN) (Nat.le_add_left _ _))
  generalize mtRound rowW fastP b a.w0 zero8 = t1 at y1 w1 l1 h1 ⊢
  obtain ⟨q2, y2, w2, l2, h2⟩ := mt_round b a.w1 t1 y1 w1 hb l1
  generalize mtRound rowW fastP b a.w1 t1 = t2 at y2 w2 l2 h2 ⊢
  obtain ⟨q3, y3, w3, l3, h3⟩ := mt_round b a.w2 t2 y2 w2 hb l2
  generalize mtRound rowW fastP b a.w2 t2 = t3 at y3 w3 l3 h3 ⊢
  obtain ⟨q4, y4, w4, l4, h4⟩ := mt_round b a.w3 t3 y3 w3 hb l3
  generalize mtRound rowW fastP b a.w3 t3 = t4 at y4 w4 l4 h4 ⊢
  obtain ⟨q5, y5, w5, l5, h5⟩ := mt_round b a.w4 t4 y4 w4 hb l4
  generalize mtRound rowW fastP b a.w4 t4 = t5 at y5 w5 l5 h5 ⊢
  obtain ⟨q6, y6, w6, l6, h6⟩ := mt_round b a.w5 t5 y5 w5 hb l5
  generalize mtRound rowW fastP b a.w5 t5 = t6 at y6 w6 l6 h6 ⊢
  refine ⟨y6, l6, q1 + 18446744073709551616 * q2 + 340282366920938463463374607431768211456 * q3 + 6277101735386680763835789423207666416102355444464034512896 * q4 + 115792089237316195423570985008687907853269984665640564039457584007913129639936 * q5 + 2135987035920910082395021706169552114602704522356652769947041607822219725780640550022962086936576 * q6, ?_⟩
  rw [zv, Nat.add_zero] at h1
  rw [hp] at h1 h2 h3 h4 h5 h6 ⊢
  have hb : a.val * b.val = (a.w0.toNat * b.val) + 18446744073709551616 * (a.w1.toNat * b.val) + 340282366920938463463374607431768211456 * (a.w2.toNat * b.val) + 6277101735386680763835789423207666416102355444464034512896 * (a.w3.toNat * b.val) + 115792089237316195423570985008687907853269984665640564039457584007913129639936 * (a.w4.toNat * b.val) + 2135987035920910082395021706169552114602704522356652769947041607822219725780640550022962086936576 * (a.w5.toNat * b.val) := by
    rw [Nat.mul_comm, val_mul]
    simp only [Nat.mul_comm b.val]
  rw [hb]
  exact raw_sum h1 h2 h3 h4 h5 h6

/-! Which is the less. -/
theorem lex_step {M a b x y : Nat} {c : Int} (hx : x < M) (hy : y < M) (h : c < 0 ↔ x < y) : (if a < b then -1 else if b < a then 1 else c) < 0 ↔ x + M * a < y + M * b := by
  rcases Nat.lt_trichotomy a b with h1 | h1 | h1
  · have h2 : M * (a + 1) ≤ M * b := Nat.mul_le_mul_left M h1
    rw [Nat.mul_add, Nat.mul_one] at h2
    rw [if_pos h1]
    generalize M * a = u at *
    generalize M * b = v at *
    omega
  · subst h1
    rw [if_neg (Nat.lt_irrefl _), if_neg (Nat.lt_irrefl _), h]
    generalize M * a = u at *
    omega
  · have h2 : M * (b + 1) ≤ M * a := Nat.mul_le_mul_left M h1
    rw [Nat.mul_add, Nat.mul_one] at h2
    rw [if_neg (Nat.lt_asymm h1), if_pos h1]
    generalize M * a = u at *
    generalize M * b = v at *
    omega

theorem lex_first {a b : Nat} : (if a < b then (-1 : Int) else if b < a then 1 else 0) < 0 ↔ a < b := by
  split
  · omega
  · split <;> omega

theorem cmW_ite (a b : W6) : cmW a b = if a.w5.toNat < b.w5.toNat then -1 else if b.w5.toNat < a.w5.toNat then 1 else if a.w4.toNat < b.w4.toNat then -1 else if b.w4.toNat < a.w4.toNat then 1 else
    if a.w3.toNat < b.w3.toNat then -1 else if b.w3.toNat < a.w3.toNat then 1 else if a.w2.toNat < b.w2.toNat then -1 else if b.w2.toNat < a.w2.toNat then 1 else
    if a.w1.toNat < b.w1.toNat then -1 else if b.w1.toNat < a.w1.toNat then 1 else if a.w0.toNat < b.w0.toNat then -1 else if b.w0.toNat < a.w0.toNat then 1 else 0 := by
  simp only [cmW, cmpL, chainV, BitVec.ult, Bool.cond_decide]

theorem low_words (a0 a1 a2 a3 a4 : BitVec 64) : a0.toNat < 18446744073709551616 ∧ a0.toNat + 18446744073709551616 * a1.toNat < 340282366920938463463374607431768211456 ∧
    a0.toNat + 18446744073709551616 * a1.toNat + 340282366920938463463374607431768211456 * a2.toNat < 6277101735386680763835789423207666416102355444464034512896 ∧
    a0.toNat + 18446744073709551616 * a1.toNat + 340282366920938463463374607431768211456 * a2.toNat + 6277101735386680763835789423207666416102355444464034512896 * a3.toNat < 115792089237316195423570985008687907853269984665640564039457584007913129639936 ∧
    a0.toNat + 18446744073709551616 * a1.toNat + 340282366920938463463374607431768211456 * a2.toNat + 6277101735386680763835789423207666416102355444464034512896 * a3.toNat + 115792089237316195423570985008687907853269984665640564039457584007913129639936 * a4.toNat < 2135987035920910082395021706169552114602704522356652769947041607822219725780640550022962086936576 := by
  have g0 := a0.isLt; have g1 := a1.isLt; have g2 := a2.isLt; have g3 := a3.isLt; have g4 := a4.isLt
  refine ⟨?_, ?_, ?_, ?_, ?_⟩ <;> omega

theorem cmW_nat (a b : W6) : cmW a b < 0 ↔ a.val < b.val := by
  obtain ⟨f0, f1, f2, f3, f4⟩ := low_words a.w0 a.w1 a.w2 a.w3 a.w4
  obtain ⟨g0, g1, g2, g3, g4⟩ := low_words b.w0 b.w1 b.w2 b.w3 b.w4
  rw [cmW_ite]
  exact lex_step f4 g4 (lex_step f3 g3 (lex_step f2 g2 (lex_step f1 g1 (lex_step f0 g0 lex_first))))

theorem subs_lt (m : W6) : (subs m primeW).2 = decide (m.val < pN) := by
  have h1 := subs_nat m primeW
  rw [prime_val] at h1
  have hl := (subs m primeW).1.val_lt
  have hm := m.val_lt
  have hp : pN = 4002409555221667393417789825735904156556882819939007885332058136124031650490837864442687629129015664037894272559787 := rfl
  rw [hp] at h1 ⊢
  cases hb : (subs m primeW).2 with
  | true =>
    rw [hb, show b2n true = 1 from rfl] at h1
    exact (decide_eq_true (by omega)).symm
  | false =>
    rw [hb, show b2n false = 0 from rfl] at h1
    exact (decide_eq_false (by omega)).symm

theorem less_cm (m : W6) : (bif decide (cmW m primeW ≥ 0) then (rsubW m primeW).1 else m) = lessW m := by
  unfold lessW
  rw [subs_lt, rsubW_eq]
  have h := cmW_nat m primeW
  rw [prime_val] at h
  by_cases hm : m.val < pN
  · rw [decide_eq_true hm, decide_eq_false (by have := h.2 hm; omega)]; rfl
  · rw [decide_eq_false hm, decide_eq_true (by have := mt h.1 hm; omega)]; rfl

theorem belowI_nat (a : W6) : belowI a = decide (a.val < pN) := by
  have h := cmW_nat a primeW
  rw [prime_val] at h
  unfold belowI
  rw [show chainV (cmpL a primeW) 0 = cmW a primeW from rfl]
  exact decide_eq_decide.2 h

/-- What is congruent and taken off once. -/
theorem less_mod (m : W6) (h : m.val < 2 * pN) : (lessW m).val = m.val % pN := by
  rw [lessW_nat m h]
  split
  · rename_i hl; exact (Nat.mod_eq_of_lt hl).symm
  · rename_i hn
    generalize pN = p at h hn ⊢
    rw [Nat.mod_eq_sub_mod (by omega), Nat.mod_eq_of_lt (by omega)]

theorem wide_mul {m x Q p R r : Nat} (hr : R * r % p = 1) (h : R * m = x + Q * p) : m % p = x * r % p := by
  have h4 : R * m % p = x % p := by rw [h, Nat.add_mul_mod_self_right]
  have : m * (R * r) % p = m % p := by rw [Nat.mul_mod, hr, Nat.mul_one, Nat.mod_mod]
  rw [← this, show m * (R * r) = R * m * r by rw [← Nat.mul_assoc, Nat.mul_comm m], Nat.mul_mod, h4, ← Nat.mul_mod]

theorem mont_less {R : W8} {f : W6} (h : R.2.1 = 0#64) : (bif R.2.1 != bitW false then (rsubW R.1 f).1 else bif decide (cmW R.1 f ≥ 0) then (rsubW R.1 f).1 else R.1) = (bif decide (cmW R.1 f ≥ 0) then (rsubW R.1 f).1 else R.1) := by
  rw [h]; rfl

theorem montW_nat (a b : W6) (hb : b.val < pN) : (montW fastP a b).val = mulN a.val b.val := by
  obtain ⟨h0, h1, Q, h2⟩ := mtRaw_nat a b hb
  have hm : montW fastP a b = lessW (mtRaw rowW fastP a b).1 := by
    unfold montW
    rw [show fastP.1 = primeW from rfl, mont_less h0, less_cm]
  rw [hm, less_mod _ (Nat.lt_of_lt_of_le h1 (by rw [Nat.two_mul]; exact Nat.add_le_add_right (Nat.le_of_lt hb) _))]
  unfold mulN
  exact wide_mul rinv_ok h2

theorem wide_twice : wideN * rinvN * rinvN % pN = 1 := by decide +kernel
theorem mul_twice {a b r w p : Nat} (h : w * r * r % p = 1) : (a * b * r % p) * w * r % p = a * b % p := by
  rw [Nat.mul_assoc, Nat.mul_mod, Nat.mod_mod, ← Nat.mul_mod, show a * b * r * (w * r) = a * b * (w * r * r) by simp only [Nat.mul_comm, Nat.mul_left_comm], Nat.mul_mod, h, Nat.mul_one, Nat.mod_mod]

/-- The reference's product. -/
theorem rmG_eq (M : Fa → W6 → W6 → W6) (f : Fa) (a b w : W6) (h : f.2.2 = w) : rmG M f a b = M f (M f a b) w := by rw [← h]; rfl
theorem rmulW_two (a b : W6) : rmulW fastP a b = montW fastP (montW fastP a b) wideW := rmG_eq montW fastP a b wideW rfl
theorem rmulW_nat (a b : W6) (hb : b.val < pN) : (rmulW fastP a b).val = a.val * b.val % pN := by
  have h1 := montW_nat a b hb
  have h2 : wideW.val < pN := Nat.lt_of_le_of_lt (Nat.le_of_eq wide_val) wideN_lt
  have h3 := montW_nat (montW fastP a b) wideW h2
  rw [rmulW_two, h3, h1, wide_val]
  unfold mulN
  exact mul_twice wide_twice

theorem rfadd_eq (a b : W6) : rfadd fastP a b = addW a b := by
  unfold rfadd addW
  rw [show fastP.1 = primeW from rfl, less_cm, raddW_eq]

theorem rfadd_nat {a b : W6} (ha : a.val < pN) (hb : b.val < pN) : (rfadd fastP a b).val = (a.val + b.val) % pN := by
  rw [rfadd_eq]
  exact (rep_add ⟨rfl, ha⟩ ⟨rfl, hb⟩).val

theorem rfneg_nat {a : W6} (ha : a.val < pN) : (rfneg fastP a).val = (pN - a.val) % pN := by
  have e : rfneg fastP a = bif eqW a zeroW then a else (rsubW primeW a).1 := rfl
  rw [e]
  cases hz : eqW a zeroW with
  | true =>
    have hz := (eqW_iff a zeroW).1 hz
    subst hz
    rw [cond_true, zero_val, Nat.sub_zero, Nat.mod_self]
  | false =>
    rw [cond_false, rsubW_eq]
    have h1 := subs_nat primeW a
    rw [prime_val] at h1
    have hl := (subs primeW a).1.val_lt
    have hb := b2n_le (subs primeW a).2
    have h0 : a.val ≠ 0 := by
      intro h
      have : a = zeroW := W6.val_inj (by rw [h, zero_val])
      rw [(eqW_iff a zeroW).2 this] at hz
      cases hz
    have hp : pN = 4002409555221667393417789825735904156556882819939007885332058136124031650490837864442687629129015664037894272559787 := rfl
    rw [hp] at h1 ha ⊢
    rw [Nat.mod_eq_of_lt (by omega)]
    generalize b2n (subs primeW a).2 = c at *
    omega

theorem rfsub_nat {a b : W6} (ha : a.val < pN) (hb : b.val < pN) : (rfsub fastP a b).val = (a.val + (pN - b.val) % pN) % pN := by
  unfold rfsub
  have h := rfneg_nat hb
  rw [rfadd_nat ha (by rw [h]; exact Nat.mod_lt _ pN_pos), h]
end Go.Rq

/- What the program's functions on points come to, reckoned with numbers. -/
namespace Go.Rq
open Go Go.Proofs

section
variable {A B : Type} {R : A → B → Prop} {o : FO A} {o' : FO B} {e : A → A → Bool} {e' : B → B → Bool}

def tOf {K : Type} (o : FO K) (e : K → K → Bool) : TO K := ⟨fun _ p => twiceJ o p, sumE o e, lenI, bitI⟩
def gOf {K : Type} (o : FO K) (e : K → K → Bool) (ti : Fl K → Jp K → W6 → Jp K) : GO K := ⟨onE o e, raiseJ o, ti, sumE o e, fun _ p => lowerE o e p⟩

theorem times_rel (h : FRel R o o' e e') {f : Fl A} {g : Fl B} (hf : RFl R f g) {p : Jp A} {q : Jp B} (hp : RJ R p q) (n : W6) : ∀ (k : Nat) {u : Jp A} {v : Jp B}, RJ R u v →
    RJ R (timesG (tOf o e) f p n k u) (timesG (tOf o' e') g q n k v)
  | 0, u, v, hu => hu
  | k + 1, u, v, hu => by
    show RJ R (timesG (tOf o e) f p n k (bif bitI n (k : Int) == 1 then sumE o e f (twiceJ o u) p else twiceJ o u)) (timesG (tOf o' e') g q n k (bif bitI n (k : Int) == 1 then sumE o' e' g (twiceJ o' v) q else twiceJ o' v))
    apply times_rel h hf hp n k
    cases bitI n (k : Int) == 1
    · exact twice_rel h hu
    · exact sum_rel h hf (twice_rel h hu) hp

/-- The functions on points go alike. -/
structure GRel (R : A → B → Prop) (t : GO A) (s : GO B) : Prop where
  on : ∀ {f g p q}, RFl R f g → RA R p q → t.on f p = s.on g q
  ra : ∀ {f g p q}, RFl R f g → RA R p q → RJ R (t.ra f p) (s.ra g q)
  ti : ∀ {f g p q}, RFl R f g → RJ R p q → ∀ n, RJ R (t.ti f p n) (s.ti g q n)
  su : ∀ {f g p q u v}, RFl R f g → RJ R p q → RJ R u v → RJ R (t.su f p u) (s.su g q v)
  lo : ∀ {f g p q}, RFl R f g → RJ R p q → RA R (t.lo f p) (s.lo g q)

theorem g_rel (h : FRel R o o' e e') {ti : Fl A → Jp A → W6 → Jp A} {ti' : Fl B → Jp B → W6 → Jp B} (ht : ∀ {f g p q}, RFl R f g → RJ R p q → ∀ n, RJ R (ti f p n) (ti' g q n)) : GRel R (gOf o e ti) (gOf o' e' ti') :=
  ⟨fun hf hp => on_rel h hf hp, fun hf hp => raise_rel h hf hp, ht, fun hf hp hu => sum_rel h hf hp hu, fun _ hp => lower_rel h hp⟩

theorem ga1_rel {t : GO A} {s : GO B} (h : GRel R t s) {z : A} {z' : B} (hz : R z z') {f : Fl A} {g : Fl B} (hf : RFl R f g) {p : Ap A} {q : Ap B} (hp : RA R p q) (n : W6) :
    RA R (ga1 t z f p n).1 (ga1 s z' g q n).1 ∧ (ga1 t z f p n).2 = (ga1 s z' g q n).2 := by
  unfold ga1
  rw [h.on hf hp]
  cases s.on g q
  · exact ⟨⟨hz, hz, rfl⟩, rfl⟩
  · exact ⟨h.lo hf (h.su hf ⟨hf.one, hf.one, hz⟩ (h.ti hf (h.ra hf hp) n)), rfl⟩

theorem ga2_rel {t : GO A} {s : GO B} (h : GRel R t s) {z : A} {z' : B} (hz : R z z') {f : Fl A} {g : Fl B} (hf : RFl R f g) {x : Ap A × Ap A} {y : Ap B × Ap B} (h1 : RA R x.1 y.1) (h2 : RA R x.2 y.2) (n : W6 × W6) :
    RA R (ga2 t z f x n).1 (ga2 s z' g y n).1 ∧ (ga2 t z f x n).2 = (ga2 s z' g y n).2 := by
  unfold ga2
  rw [h.on hf h1, h.on hf h2]
  cases s.on g y.1
  · exact ⟨⟨hz, hz, rfl⟩, rfl⟩
  · cases s.on g y.2
    · exact ⟨⟨hz, hz, rfl⟩, rfl⟩
    · exact ⟨h.lo hf (h.su hf (h.su hf ⟨hf.one, hf.one, hz⟩ (h.ti hf (h.ra hf h1) n.1)) (h.ti hf (h.ra hf h2) n.2)), rfl⟩
end

/-! Multiples, reckoned step by step. -/

def forceJ {α : Type} (r : Jp Nat) (f : Jp Nat → α) : α := forceN r.x fun x => forceN r.y fun y => forceN r.z fun z => f ⟨x, y, z⟩
theorem forceJ_eq {α : Type} (r : Jp Nat) (f : Jp Nat → α) : forceJ r f = f r := by simp only [forceJ, forceN_eq]
def forceK {α : Type} (r : Jp (DN Nat)) (f : Jp (DN Nat) → α) : α := forceN r.x.a fun a => forceN r.x.b fun b => forceN r.y.a fun c => forceN r.y.b fun d => forceN r.z.a fun x => forceN r.z.b fun y => f ⟨⟨a, b⟩, ⟨c, d⟩, ⟨x, y⟩⟩
theorem forceK_eq {α : Type} (r : Jp (DN Nat)) (f : Jp (DN Nat) → α) : forceK r f = f r := by simp only [forceK, forceN_eq]

def stepG {K : Type} (o : FO K) (e : K → K → Bool) (f : Fl K) (p : Jp K) (b : Bool) (u : Jp K) : Jp K := bif b then sumE o e f (twiceJ o u) p else twiceJ o u

/-- A multiple; a point is reckoned whole at each bit. -/
def runN {K : Type} (fo : Jp K → (Jp K → Jp K) → Jp K) (st : Bool → Jp K → Jp K) : List Bool → Jp K → Jp K
  | [], u => u
  | b :: t, u => fo (st b u) fun v => runN fo st t v

def bitsL (n : W6) : Nat → List Bool
  | 0 => []
  | k + 1 => (bitI n (k : Int) == 1) :: bitsL n k

theorem runN_eq {K : Type} {o : FO K} {e : K → K → Bool} {fo : Jp K → (Jp K → Jp K) → Jp K} (hfo : ∀ r f, fo r f = f r) (f : Fl K) (p : Jp K) (n : W6) : ∀ (k : Nat) (u : Jp K),
    runN fo (stepG o e f p) (bitsL n k) u = timesG (tOf o e) f p n k u
  | 0, u => rfl
  | k + 1, u => by
    simp only [bitsL, runN, hfo]
    exact runN_eq hfo f p n k _

def timesN (f : Fl Nat) (p : Jp Nat) (n : W6) : Jp Nat := runN forceJ (stepG fN Nat.beq f p) (bitsL n (lenI n).toNat) ⟨f.one, f.one, 0⟩
def timesK (f : Fl (DN Nat)) (p : Jp (DN Nat)) (n : W6) : Jp (DN Nat) := runN forceK (stepG fDN (beqA Nat.beq) f p) (bitsL n (lenI n).toNat) ⟨f.one, f.one, ⟨0, 0⟩⟩

theorem timesN_rel {f : Fl Nat} {g : Fl W6} {p : Jp Nat} {q : Jp W6} (hf : RFl Rep f g) (hp : RJ Rep p q) (n : W6) : RJ Rep (timesN f p n) (timesW g q n) := by
  unfold timesN timesW
  rw [runN_eq (o := fN) (e := Nat.beq) forceJ_eq]
  exact times_rel relW hf hp n _ ⟨hf.one, hf.one, rep_zero⟩
theorem timesK_rel {f : Fl (DN Nat)} {g : Fl D6} {p : Jp (DN Nat)} {q : Jp D6} (hf : RFl (RD Rep) f g) (hp : RJ (RD Rep) p q) (n : W6) : RJ (RD Rep) (timesK f p n) (timesD g q n) := by
  unfold timesK timesD
  rw [runN_eq (o := fDN) (e := beqA Nat.beq) forceK_eq]
  exact times_rel relD hf hp n _ ⟨hf.one, hf.one, rd_zero⟩

def gN : GO Nat := gOf fN Nat.beq timesN
def gK : GO (DN Nat) := gOf fDN (beqA Nat.beq) timesK
theorem gN_rel : GRel Rep gN gaOW := g_rel relW timesN_rel
theorem gK_rel : GRel (RD Rep) gK gaOD := g_rel relD timesK_rel

def flN : Fl Nat := ⟨oneN, toN 4⟩
def flK : Fl (DN Nat) := ⟨⟨oneN, 0⟩, ⟨toN 4, toN 4⟩⟩
theorem four_val : (ofW 4#64).val = 4 := by decide +kernel
theorem four_rep : Rep (toN 4) (toW (ofW 4#64)) := by
  have := rep_to (ofW 4#64)
  rw [four_val] at this
  exact this
theorem flN_rel : RFl Rep flN fld1 := ⟨rep_one, four_rep⟩
theorem flK_rel : RFl (RD Rep) flK fld2 := ⟨rd_one, ⟨four_rep, four_rep⟩⟩

def inN (p : Ap W6) : Ap Nat := ⟨toN p.x.val, toN p.y.val, p.zero⟩
def inK (p : Ap D6) : Ap (DN Nat) := ⟨⟨toN p.x.a.val, toN p.x.b.val⟩, ⟨toN p.y.a.val, toN p.y.b.val⟩, p.zero⟩
theorem inP_rel (t : Nat → Nat) (t' : W6 → W6) (h : ∀ a : W6, Rep (t a.val) (t' a)) (p : Ap W6) : RA Rep ⟨t p.x.val, t p.y.val, p.zero⟩ ⟨t' p.x, t' p.y, p.zero⟩ := ⟨h _, h _, rfl⟩
theorem inN_rel (p : Ap W6) : RA Rep (inN p) (inP1 p) := by
  unfold inN inP1
  exact inP_rel toN toW rep_to p
theorem to2_rel (o : FO W6) (t : Nat → Nat) (h : ∀ a : W6, Rep (t a.val) (o.to a)) (x : D6) : RD Rep ⟨t x.a.val, t x.b.val⟩ (to2 o x) := ⟨h _, h _⟩
theorem fW_to : fW.to = toW := by simp only [fW]
theorem fW_back : fW.back = fromW := by simp only [fW]
theorem inK_rel (p : Ap D6) : RA (RD Rep) (inK p) (inP2 p) := ⟨to2_rel fW toN (fun a => by rw [fW_to]; exact rep_to a) p.x, to2_rel fW toN (fun a => by rw [fW_to]; exact rep_to a) p.y, rfl⟩

/-- A point that is told again. -/
theorem outN_eq {p : Ap Nat} {q r : Ap W6} (h : RA Rep p q) (hx : backN p.x = r.x.val) (hy : backN p.y = r.y.val) (hz : p.zero = r.zero) : outP1 q = r := by
  obtain ⟨rx, ry, rz⟩ := r
  have e1 : fromW q.x = rx := W6.val_inj (by rw [rep_back h.x]; exact hx)
  have e2 : fromW q.y = ry := W6.val_inj (by rw [rep_back h.y]; exact hy)
  unfold outP1
  rw [e1, e2, ← h.z, hz]
theorem back2_eq (o : FO W6) (b : Nat → Nat) (h : ∀ {a : Nat} {w : W6}, Rep a w → (o.back w).val = b a) {p : DN Nat} {q r : D6} (hp : RD Rep p q) (h1 : b p.a = r.a.val) (h2 : b p.b = r.b.val) : back2 o q = r := by
  obtain ⟨ra, rb⟩ := r
  have e1 : o.back q.a = ra := W6.val_inj (by rw [h hp.a]; exact h1)
  have e2 : o.back q.b = rb := W6.val_inj (by rw [h hp.b]; exact h2)
  unfold back2
  rw [e1, e2]
theorem outK_eq {p : Ap (DN Nat)} {q r : Ap D6} (h : RA (RD Rep) p q) (h1 : backN p.x.a = r.x.a.val) (h2 : backN p.x.b = r.x.b.val) (h3 : backN p.y.a = r.y.a.val) (h4 : backN p.y.b = r.y.b.val) (hz : p.zero = r.zero) : outP2 q = r := by
  have e1 := back2_eq fW backN (fun {a w} h => by rw [fW_back]; exact rep_back h) h.x h1 h2
  have e2 := back2_eq fW backN (fun {a w} h => by rw [fW_back]; exact rep_back h) h.y h3 h4
  unfold outP2
  obtain ⟨rx, ry, rz⟩ := r
  rw [e1, e2, ← h.z, hz]

/-! What is reckoned, and what is told. -/
def tellN (x : Ap Nat × Int) : Ap Nat × Int := (⟨backN x.1.x, backN x.1.y, x.1.zero⟩, x.2)
def tellK (x : Ap (DN Nat) × Int) : Ap (DN Nat) × Int := (⟨⟨backN x.1.x.a, backN x.1.x.b⟩, ⟨backN x.1.y.a, backN x.1.y.b⟩, x.1.zero⟩, x.2)
def litN (r : Ap W6) : Ap Nat := ⟨r.x.val, r.y.val, r.zero⟩
def litK (r : Ap D6) : Ap (DN Nat) := ⟨⟨r.x.a.val, r.x.b.val⟩, ⟨r.y.a.val, r.y.b.val⟩, r.zero⟩

theorem mul1_of {p r : Ap W6} {n : W6} {err : Int} (hb : belowP1 p = true) (h : tellN (ga1 gN 0 flN (inN p) n) = (litN r, err)) : sumP1W p n = (r, err) := by
  obtain ⟨h1, h2⟩ := ga1_rel gN_rel rep_zero flN_rel (inN_rel p) n
  have e := Prod.mk.inj h
  obtain ⟨e1, e2⟩ := e
  have e3 := Ap.mk.inj e1
  have ho := outN_eq (r := r) h1 e3.1 e3.2.1 e3.2.2
  have hs : sumP1W p n = bif belowP1 p then (outP1 (gath1W fld1 (inP1 p) n).1, (gath1W fld1 (inP1 p) n).2) else (⟨zeroW, zeroW, false⟩, 5) := by unfold sumP1W sm1 suOW; rfl
  rw [hs, hb, cond_true]
  have hg : gath1W fld1 (inP1 p) n = ga1 gaOW zeroW fld1 (inP1 p) n := by unfold gath1W; rfl
  rw [hg, ho, ← h2]
  exact congrArg (Prod.mk r) e2

theorem add1_of {p q r : Ap W6} {err : Int} (hb : belowP1 p = true) (hc : belowP1 q = true) (h : tellN (ga2 gN 0 flN (inN p, inN q) (ofW (bitW true), ofW (bitW true))) = (litN r, err)) : addP1 p q = (r, err) := by
  obtain ⟨h1, h2⟩ := ga2_rel gN_rel rep_zero flN_rel (x := (inN p, inN q)) (y := (inP1 p, inP1 q)) (inN_rel p) (inN_rel q) (ofW (bitW true), ofW (bitW true))
  have e := Prod.mk.inj h
  obtain ⟨e1, e2⟩ := e
  have e3 := Ap.mk.inj e1
  have ho := outN_eq (r := r) h1 e3.1 e3.2.1 e3.2.2
  have hs : addP1 p q = bif belowP1 p then (bif belowP1 q then (outP1 (gath2W fld1 (inP1 p, inP1 q) (ofW (bitW true), ofW (bitW true))).1, (gath2W fld1 (inP1 p, inP1 q) (ofW (bitW true), ofW (bitW true))).2) else (⟨zeroW, zeroW, false⟩, 5)) else (⟨zeroW, zeroW, false⟩, 5) := by
    unfold addP1 sumP2W sm2 suOW; rfl
  rw [hs, hb, hc, cond_true, cond_true]
  have hg : gath2W fld1 (inP1 p, inP1 q) (ofW (bitW true), ofW (bitW true)) = ga2 gaOW zeroW fld1 (inP1 p, inP1 q) (ofW (bitW true), ofW (bitW true)) := by unfold gath2W; rfl
  rw [hg, ho, ← h2]
  exact congrArg (Prod.mk r) e2

theorem mul2_of {p r : Ap D6} {n : W6} {err : Int} (hb : belowP2 p = true) (h : tellK (ga1 gK ⟨0, 0⟩ flK (inK p) n) = (litK r, err)) : sumP1D p n = (r, err) := by
  obtain ⟨h1, h2⟩ := ga1_rel gK_rel rd_zero flK_rel (inK_rel p) n
  have e := Prod.mk.inj h
  obtain ⟨e1, e2⟩ := e
  have e3 := Ap.mk.inj e1
  have e4 := DN.mk.inj e3.1
  have e5 := DN.mk.inj e3.2.1
  have ho := outK_eq (r := r) h1 e4.1 e4.2 e5.1 e5.2 e3.2.2
  have hs : sumP1D p n = bif belowP2 p then (outP2 (gath1D fld2 (inP2 p) n).1, (gath1D fld2 (inP2 p) n).2) else (⟨zero2, zero2, false⟩, 5) := by unfold sumP1D sm1 suOD; rfl
  rw [hs, hb, cond_true]
  have hg : gath1D fld2 (inP2 p) n = ga1 gaOD zero2 fld2 (inP2 p) n := by unfold gath1D; rfl
  rw [hg, ho, ← h2]
  exact congrArg (Prod.mk r) e2

theorem check1_of (p : Ap W6) : checkP1 p = bif belowP1 p then onE fN Nat.beq flN (inN p) else false := by
  unfold checkP1
  rw [on_rel relW flN_rel (inN_rel p)]
theorem check2_of (p : Ap D6) : checkP2 p = bif belowP2 p then onE fDN (beqA Nat.beq) flK (inK p) else false := by
  unfold checkP2
  rw [on_rel relD flK_rel (inK_rel p)]
theorem in1_of (p : Ap W6) : inGroup1 p = bif belowP1 p then (bif onE fN Nat.beq flN (inN p) then (lowerE fN Nat.beq (timesN flN (raiseJ fN flN (inN p)) orderW)).zero else false) else false := by
  unfold inGroup1 inEW inGW lowFW
  rw [on_rel relW flN_rel (inN_rel p), (lower_rel relW (timesN_rel flN_rel (raise_rel relW flN_rel (inN_rel p)) orderW)).z]
theorem neg1_of {p r : Ap W6} (hc : checkP1 p = true) (hx : backN (inN p).x = r.x.val) (hy : backN (subN 0 (inN p).y) = r.y.val) (hz : p.zero = r.zero) : negP1 p = (r, 0) := by
  have hn := neg_rel relW (inN_rel p)
  unfold negP1
  rw [hc, outN_eq (r := r) hn hx (by unfold negE; rw [fN_sub]; exact hy) hz]
  rfl
end Go.Rq

/- The reference's formulas over a field; multiples by the program and by the reference. -/
namespace Go.Rq
open Go Go.Proofs
open Lean.Grind (CommRing)

/-! Points of three elements, by the reference. -/
section
variable {K : Type} [CommRing K] {iv : K → K} {e : K → K → Bool}

/-- The reference's operations go like a field's. -/
structure TRel (S : K → D6 → Prop) (o : Bool) (e : K → K → Bool) (t : TH) : Prop where
  mu : ∀ {p : Th} {x y : K} {a b : D6}, p.one = o → S x a → S y b → S (x * y) (t.mu p a b)
  tm : ∀ {x : K} {a : D6} (s : Sm), S x a → S (tmK x s.n) (t.tm a s)
  sb : ∀ {x y : K} {a b : D6}, S x a → S y b → S (x - y) (t.sb a b)
  zero : S 0 zeroD
  eq : ∀ {x y : K} {a b : D6}, S x a → S y b → e x y = eqD a b

structure TJ (S : K → D6 → Prop) (o : Bool) (p : Jp K) (q : Th) : Prop where
  x : S p.x q.x
  y : S p.y q.y
  z : S p.z q.z
  one : q.one = o

variable {S : K → D6 → Prop} {o : Bool} {t : TH}

theorem noneT_rel (h : TRel S o e t) {b : Bool} (hq : b = o) : TJ S o noneJ (noneT b) := ⟨h.zero, h.zero, h.zero, hq⟩

theorem dblF_rel (h : TRel S o e t) {p : Jp K} {q : Th} (hp : TJ S o p q) : TJ S o (dblF p) (dblP t q) := by
  have yy := h.mu hp.one hp.y hp.y
  have s := h.tm .n4 (h.mu hp.one hp.x yy)
  have m := h.tm .n3 (h.mu hp.one hp.x hp.x)
  have x := h.sb (h.mu hp.one m m) (h.tm .n2 s)
  exact ⟨x, h.sb (h.mu hp.one m (h.sb s x)) (h.tm .n8 (h.mu hp.one yy yy)), h.tm .n2 (h.mu hp.one hp.y hp.z), hp.one⟩

theorem dbl_rel (h : TRel S o e t) {p : Jp K} {q : Th} (hp : TJ S o p q) : TJ S o (dblK e p) (dblG t q) := by
  unfold dblK dblG
  rw [h.eq hp.z h.zero, h.eq hp.y h.zero]
  cases eqD q.z zeroD
  · cases eqD q.y zeroD
    · exact dblF_rel h hp
    · exact noneT_rel h hp.one
  · exact noneT_rel h hp.one

theorem hK_rel (h : TRel S o e t) {p u : Jp K} {q v : Th} (hp : TJ S o p q) (hu : TJ S o u v) : S (hK p u) (tAddH t q v) := h.sb (h.mu hp.one hu.x (h.mu hp.one hp.z hp.z)) hp.x
theorem kK_rel (h : TRel S o e t) {p u : Jp K} {q v : Th} (hp : TJ S o p q) (hu : TJ S o u v) : S (kK p u) (tAddK t q v) := h.sb (h.mu hp.one hu.y (h.mu hp.one (h.mu hp.one hp.z hp.z) hp.z)) hp.y

theorem addF_rel (h : TRel S o e t) {p u : Jp K} {q v : Th} (hp : TJ S o p q) (hu : TJ S o u v) (D : Th → Th) : TJ S o (addF p u) (addP t D q v) := by
  have hh := hK_rel h hp hu
  have k := kK_rel h hp hu
  have h2 := h.mu hp.one hh hh
  have h3 := h.mu hp.one h2 hh
  have w := h.mu hp.one hp.x h2
  have x := h.sb (h.sb (h.mu hp.one k k) h3) (h.tm .n2 w)
  exact ⟨x, h.sb (h.mu hp.one k (h.sb w x)) (h.mu hp.one hp.y h3), h.mu hp.one hp.z hh, hp.one⟩

theorem add_rel (h : TRel S o e t) {p u : Jp K} {q v : Th} (hp : TJ S o p q) (hu : TJ S o u v) : TJ S o (addK e p u) (addG t (dblG t) q v) := by
  unfold addK addG
  rw [h.eq hp.z h.zero, h.eq (hK_rel h hp hu) h.zero, h.eq (kK_rel h hp hu) h.zero]
  cases eqD q.z zeroD
  · cases eqD (tAddH t q v) zeroD
    · exact addF_rel h hp hu (dblG t)
    · cases eqD (tAddK t q v) zeroD
      · exact noneT_rel h hp.one
      · exact dbl_rel h hp
  · exact hu

theorem mult_rel (h : TRel S o e t) {p : Jp K} {q : Th} (hp : TJ S o p q) (w : W6) : ∀ (k : Nat) {u : Jp K} {v : Th}, TJ S o u v → TJ S o (multK e w.bit p k u) (multG ⟨dblG t, addG t (dblG t)⟩ q w k v)
  | 0, u, v, hu => hu
  | k + 1, u, v, hu => by
    simp only [multK, multG]
    apply mult_rel h hp w k
    cases w.bit k
    · exact dbl_rel h hu
    · exact add_rel h (dbl_rel h hu) hp

/-- The two elements. -/
theorem two_rel (h : TRel S o e t) {r : RO} {i2 : D6 → D6} (hi : ∀ {x : K} {a : D6}, S x a → S (iv x) (bif o then ⟨r.iv r.fp a.a, zeroW⟩ else i2 a)) {p : Jp K} {q : Th} (hp : TJ S o p q) :
    (twG r i2 t.mu q).2.2 = !(lowK iv e p).zero ∧ S (lowK iv e p).x (twG r i2 t.mu q).1 ∧ S (lowK iv e p).y (twG r i2 t.mu q).2.1 := by
  have low : ∀ {d : D6}, S (iv p.z) d → S (p.x * (iv p.z * iv p.z)) (twP t.mu q d).1 ∧ S (p.y * ((iv p.z * iv p.z) * iv p.z)) (twP t.mu q d).2.1 := fun {d} hd =>
    ⟨h.mu hp.one hp.x (h.mu hp.one hd hd), h.mu hp.one hp.y (h.mu hp.one (h.mu hp.one hd hd) hd)⟩
  unfold twG lowK
  rw [h.eq hp.z h.zero]
  cases eqD q.z zeroD
  · have hz := hi hp.z
    rw [hp.one]
    cases ho : o
    · rw [ho, cond_false] at hz
      exact ⟨rfl, low hz⟩
    · rw [ho, cond_true] at hz
      exact ⟨rfl, low hz⟩
  · exact ⟨rfl, h.zero, h.zero⟩
end

/-! Bits and lengths. -/
theorem bit_out (n : W6) {i : Nat} (h : 384 ≤ i) : n.bit i = false := by
  unfold W6.bit
  have : n.get (i / 64) = 0#64 := by
    unfold W6.get
    rw [List.getD_eq_getElem?_getD, List.getElem?_eq_none (by simp; omega)]
    rfl
  rw [this, BitVec.zero_ushiftRight]
  rfl

theorem bitI_bit (n : W6) (i : Nat) : (bitI n (i : Int) == 1) = n.bit i := by
  unfold bitI
  rw [show decide ((i : Int) < 0) = false from decide_eq_false (by omega)]
  by_cases h : 384 ≤ i
  · rw [show decide ((i : Int) ≥ 384) = true from decide_eq_true (by omega), bit_out n h]; rfl
  · rw [show decide ((i : Int) ≥ 384) = false from decide_eq_false (by omega)]
    rw [show ((i : Int)).toNat = i from rfl]
    cases n.bit i <;> rfl

theorem rlenL_zero (B : W6 → Int → Int) (n : W6) : ∀ (k i : Nat), i < k → chainV (rlenL B n k) 0 ≤ (i : Int) → (B n (i : Int) == 1) = false
  | 0, i, h, _ => by omega
  | k + 1, i, h, hc => by
    simp only [rlenL, chainV] at hc
    cases hb : B n (k : Int) == 1 with
    | true =>
      rw [hb, cond_true] at hc
      omega
    | false =>
      rw [hb, cond_false] at hc
      by_cases he : i = k
      · subst he; exact hb
      · exact rlenL_zero B n k i (by omega) hc

theorem rlen_bits (n : W6) {i : Nat} (h : (rlenI n).toNat ≤ i) : n.bit i = false := by
  by_cases hi : 384 ≤ i
  · exact bit_out n hi
  · rw [← bitI_bit]
    refine rlenL_zero bitI n 384 i (by omega) ?_
    have := (rlenI_le n).1
    show rlenI n ≤ (i : Int)
    omega

theorem word_bit (w : BitVec 64) {j : Nat} (h : w.toNat < 2 ^ j) : (((w >>> j) &&& 1#64) == 1#64) = false := by
  have : w >>> j = 0#64 := by
    apply BitVec.eq_of_toNat_eq
    rw [BitVec.toNat_ushiftRight, Nat.shiftRight_eq_div_pow, Nat.div_eq_of_lt h]
    rfl
  rw [this]
  rfl

theorem bl_bits {w : BitVec 64} {j : Nat} (h : bl w.toNat ≤ j) : (((w >>> j) &&& 1#64) == 1#64) = false := word_bit w (bl_spec.1 h)

theorem bl_le (x : BitVec 64) : bl x.toNat ≤ 64 := bl_spec.2 x.isLt

theorem len_step {w : BitVec 64} {k : Int} {l : List (Bool × Int)} {i : Nat} (h0 : 0 ≤ k) (h1 : k ≤ 320) (h : chainV ((w != 0#64, IntKind.i64.wrap (k + ((bl w.toNat : Nat) : Int))) :: l) 0 ≤ (i : Int)) :
    k + ((bl w.toNat : Nat) : Int) ≤ (i : Int) ∨ (w = 0#64 ∧ chainV l 0 ≤ (i : Int)) := by
  have hb := bl_le w
  simp only [chainV] at h
  cases hc : w != 0#64 with
  | true =>
    rw [hc, cond_true, wrap_id (by omega) (by omega)] at h
    exact .inl h
  | false =>
    rw [hc, cond_false] at h
    exact .inr ⟨by simpa using hc, h⟩

theorem len_bits (n : W6) {i : Nat} (h : (lenI n).toNat ≤ i) : n.bit i = false := by
  by_cases hi : 384 ≤ i
  · exact bit_out n hi
  have h0 := (lenI_le n).1
  have h' : lenI n ≤ (i : Int) := by omega
  have z : ∀ j, (((0#64 >>> j) &&& 1#64) == 1#64) = false := fun j => word_bit 0#64 (by simp; exact Nat.two_pow_pos j)
  have hcases : i / 64 = 0 ∨ i / 64 = 1 ∨ i / 64 = 2 ∨ i / 64 = 3 ∨ i / 64 = 4 ∨ i / 64 = 5 := by omega
  have gb : ∀ {w : BitVec 64} {k : Nat}, n.get (i / 64) = w → i / 64 = k → 64 * (k : Int) + ((bl w.toNat : Nat) : Int) ≤ (i : Int) → n.bit i = false := fun {w k} hw hk hl => by
    unfold W6.bit
    rw [hw]
    exact bl_bits (by omega)
  have gz : n.get (i / 64) = 0#64 → n.bit i = false := fun hw => by
    unfold W6.bit
    rw [hw]
    exact z _
  have b0 := bl_le n.w0; have b1 := bl_le n.w1; have b2 := bl_le n.w2; have b3 := bl_le n.w3; have b4 := bl_le n.w4; have b5 := bl_le n.w5
  have up : ∀ {m : Nat} {x : Nat}, i / 64 < m → (64 * m + x : Int) ≤ (i : Int) → False := fun {m x} h1 h2 => by omega
  unfold lenI lenL at h'
  rcases len_step (by omega) (by omega) h' with h5 | ⟨z5, h'⟩
  · rcases hcases with c | c | c | c | c | c
    · exact (up (m := 5) (by omega) h5).elim
    · exact (up (m := 5) (by omega) h5).elim
    · exact (up (m := 5) (by omega) h5).elim
    · exact (up (m := 5) (by omega) h5).elim
    · exact (up (m := 5) (by omega) h5).elim
    · exact gb (by rw [c]; rfl) c h5
  rcases len_step (by omega) (by omega) h' with h4 | ⟨z4, h'⟩
  · rcases hcases with c | c | c | c | c | c
    · exact (up (m := 4) (by omega) h4).elim
    · exact (up (m := 4) (by omega) h4).elim
    · exact (up (m := 4) (by omega) h4).elim
    · exact (up (m := 4) (by omega) h4).elim
    · exact gb (by rw [c]; rfl) c h4
    · exact gz (by rw [c]; exact z5)
  rcases len_step (by omega) (by omega) h' with h3 | ⟨z3, h'⟩
  · rcases hcases with c | c | c | c | c | c
    · exact (up (m := 3) (by omega) h3).elim
    · exact (up (m := 3) (by omega) h3).elim
    · exact (up (m := 3) (by omega) h3).elim
    · exact gb (by rw [c]; rfl) c h3
    · exact gz (by rw [c]; exact z4)
    · exact gz (by rw [c]; exact z5)
  rcases len_step (by omega) (by omega) h' with h2 | ⟨z2, h'⟩
  · rcases hcases with c | c | c | c | c | c
    · exact (up (m := 2) (by omega) h2).elim
    · exact (up (m := 2) (by omega) h2).elim
    · exact gb (by rw [c]; rfl) c h2
    · exact gz (by rw [c]; exact z3)
    · exact gz (by rw [c]; exact z4)
    · exact gz (by rw [c]; exact z5)
  rcases len_step (by omega) (by omega) h' with h1 | ⟨z1, h'⟩
  · rcases hcases with c | c | c | c | c | c
    · exact (up (m := 1) (by omega) h1).elim
    · exact gb (by rw [c]; rfl) c h1
    · exact gz (by rw [c]; exact z2)
    · exact gz (by rw [c]; exact z3)
    · exact gz (by rw [c]; exact z4)
    · exact gz (by rw [c]; exact z5)
  rcases len_step (by omega) (by omega) h' with h0 | ⟨z0, h'⟩
  · rcases hcases with c | c | c | c | c | c
    · exact gb (by rw [c]; rfl) c h0
    · exact gz (by rw [c]; exact z1)
    · exact gz (by rw [c]; exact z2)
    · exact gz (by rw [c]; exact z3)
    · exact gz (by rw [c]; exact z4)
    · exact gz (by rw [c]; exact z5)
  · rcases hcases with c | c | c | c | c | c
    · exact gz (by rw [c]; exact z0)
    · exact gz (by rw [c]; exact z1)
    · exact gz (by rw [c]; exact z2)
    · exact gz (by rw [c]; exact z3)
    · exact gz (by rw [c]; exact z4)
    · exact gz (by rw [c]; exact z5)

/-! Multiples, by the program. -/
section
variable {K : Type} [CommRing K] {iv : K → K} {e : K → K → Bool}

theorem times_run (f : Fl K) (p : Jp K) (n : W6) : ∀ (k : Nat) (u : Jp K), timesG (tOf (foK iv) e) f p n k u = runK iv e f n.bit p k u
  | 0, u => rfl
  | k + 1, u => by
    show timesG (tOf (foK iv) e) f p n k (bif bitI n (k : Int) == 1 then sumE (foK iv) e f (twiceJ (foK iv) u) p else twiceJ (foK iv) u) = _
    rw [bitI_bit, times_run f p n k]
    rfl

def timesF (iv : K → K) (e : K → K → Bool) (f : Fl K) (p : Jp K) (n : W6) : Jp K := timesG (tOf (foK iv) e) f p n (lenI n).toNat ⟨f.one, f.one, 0⟩
def gaF (iv : K → K) (e : K → K → Bool) : GO K := gOf (foK iv) e (timesF iv e)

theorem twice_none {u : Jp K} (hu : u.z = 0) : (twiceJ (foK iv) u).z = 0 := by rw [twice_z, hu]; grind

theorem run_none (F : Fd K iv e) {f : Fl K} {b : Nat → Bool} {p : Jp K} (hp : p.z = 0) : ∀ (k : Nat) {u : Jp K}, u.z = 0 → (runK iv e f b p k u).z = 0
  | 0, u, hu => hu
  | k + 1, u, hu => by
    simp only [runK]
    apply run_none F hp k
    cases b k
    · exact twice_none hu
    · show (sumE (foK iv) e f (twiceJ (foK iv) u) p).z = 0
      unfold sumE
      rw [show (foK iv).zero = (0 : K) from rfl, F.eq.2 (twice_none hu)]
      exact hp

theorem low_none (F : Fd K iv e) {u : Jp K} (hu : u.z = 0) : lowerE (foK iv) e u = ⟨0, 0, true⟩ := by
  unfold lowerE
  rw [show (foK iv).zero = (0 : K) from rfl, F.eq.2 hu]
  rfl

theorem sum_none (F : Fd K iv e) (f : Fl K) {u v : Jp K} (hu : u.z = 0) : sumE (foK iv) e f u v = v := by
  unfold sumE
  rw [show (foK iv).zero = (0 : K) from rfl, F.eq.2 hu]
  rfl

/-- A multiple by the program is that by the reference. -/
theorem times_low (F : Fd K iv e) {f : Fl K} (hf : f.one = 1) {p : Ap K} (hp : p.zero = true → p = ⟨0, 0, true⟩) (n : W6) {l : Nat} (hl : (rlenI n).toNat ≤ l) :
    lowerE (foK iv) e (timesF iv e f (raiseJ (foK iv) f p) n) = bif p.zero then p else lowK iv e (multK e n.bit ⟨p.x, p.y, 1⟩ l noneJ) := by
  unfold timesF
  rw [times_run]
  cases hz : p.zero with
  | true =>
    have hr : (raiseJ (foK iv) f p).z = 0 := by unfold raiseJ; rw [hz]; rfl
    rw [low_none F (run_none F hr _ rfl), cond_true]
    exact (hp hz).symm
  | false =>
    have hr : raiseJ (foK iv) f p = ⟨p.x, p.y, 1⟩ := by unfold raiseJ; rw [hz, hf]; rfl
    rw [hr, cond_false]
    exact low_eq F (run_mult2 F rfl (fun i hi => len_bits n hi) (fun i hi => rlen_bits n (Nat.le_trans hl hi)) rfl rfl)

theorem ga1_low (F : Fd K iv e) {f : Fl K} (hf : f.one = 1) {p : Ap K} (hp : p.zero = true → p = ⟨0, 0, true⟩) (hon : onE (foK iv) e f p = true) (n : W6) {l : Nat} (hl : (rlenI n).toNat ≤ l) :
    ga1 (gaF iv e) 0 f p n = (bif p.zero then p else lowK iv e (multK e n.bit ⟨p.x, p.y, 1⟩ l noneJ), 0) := by
  have h : ga1 (gaF iv e) 0 f p n = bif onE (foK iv) e f p then (lowerE (foK iv) e (sumE (foK iv) e f ⟨f.one, f.one, 0⟩ (timesF iv e f (raiseJ (foK iv) f p) n)), 0) else (⟨0, 0, false⟩, 5) := rfl
  rw [h, hon, cond_true, sum_none F f rfl, times_low F hf hp n hl]

theorem one_len : (lenI (ofW (bitW true))).toNat = 1 := by decide +kernel
theorem one_bit : (ofW (bitW true)).bit 0 = true := by decide +kernel
theorem times_one (F : Fd K iv e) (f : Fl K) (p : Jp K) : timesF iv e f p (ofW (bitW true)) = p := by
  unfold timesF
  rw [times_run, one_len]
  simp only [runK]
  rw [one_bit, cond_true, sum_none F f (twice_none rfl)]

theorem ga2_low (F : Fd K iv e) {f : Fl K} (hf : f.one = 1) {p q : Ap K} (hp : p.zero = true → p = ⟨0, 0, true⟩) (hq : q.zero = true → q = ⟨0, 0, true⟩) (hon : onE (foK iv) e f p = true) (hoq : onE (foK iv) e f q = true) :
    ga2 (gaF iv e) 0 f (p, q) (ofW (bitW true), ofW (bitW true)) = (sumA iv e p q, 0) := by
  have h : ga2 (gaF iv e) 0 f (p, q) (ofW (bitW true), ofW (bitW true)) = bif onE (foK iv) e f p then (bif onE (foK iv) e f q then (lowerE (foK iv) e (sumE (foK iv) e f (sumE (foK iv) e f ⟨f.one, f.one, 0⟩ (timesF iv e f (raiseJ (foK iv) f p) (ofW (bitW true)))) (timesF iv e f (raiseJ (foK iv) f q) (ofW (bitW true)))), 0) else (⟨0, 0, false⟩, 5)) else (⟨0, 0, false⟩, 5) := rfl
  have eqn : ∀ {p : Ap K}, onE (foK iv) e f p = true → p.zero = false → p.y * p.y = p.x * p.x * p.x + f.b := fun {p} h1 h2 => by
    unfold onE at h1
    rw [h2, cond_false] at h1
    exact F.eq.1 h1
  rw [h, hon, hoq, cond_true, cond_true, times_one F, times_one F, sum_none F f (u := ⟨f.one, f.one, 0⟩) rfl, sum_slope F hf hp hq (eqn hon) (eqn hoq)]
end
end Go.Rq

/- Numbers out of text: gone through where they are called. -/
namespace Go.Rq
open Go Go.Proofs

theorem ibs_ok : CallOk PR 197 (fn2 kStr (kInt .u8) (kInt .i64) idxByte) :=
  .inr (ext2 (fn := Try.f197) (by kernel_rfl) (by kernel_rfl) (by kernel_rfl) (by kernel_rfl) (r := Extern.BytealgIndexByte.indexByte) (by kernel_rfl) idxByte_run)
def ibT (X : ByteArray → Int → Int) : PureTab := [(197, fn2 kStr (kInt .u8) (kInt .i64) X), (192, fn2 kStr (kInt .u8) (kInt .i64) X)]
theorem ib1_run (X : ByteArray → Int → Int) (s : ByteArray) (b : Int) : (afunR PR (envOf eqsT [(197, fn2 kStr (kInt .u8) (kInt .i64) X)]) [] (fun _ => none) 40 192 [kStr.enc s, (kInt .u8).enc b]).strict = .leaf ((kInt .i64).enc (X s b)) := by kernel_rfl
theorem ib2_run (X : ByteArray → Int → Int) (s : ByteArray) (b : Int) : (afunR PR (envOf eqsT [(192, fn2 kStr (kInt .u8) (kInt .i64) X)]) [] (fun _ => none) 40 178 [kStr.enc s, (kInt .u8).enc b]).strict = .leaf ((kInt .i64).enc (X s b)) := by kernel_rfl
def ib1T : PureTab := [(197, fn2 kStr (kInt .u8) (kInt .i64) idxByte)]
theorem ib1T_ok : TabPOk PR ib1T := TabPOk.cons ibs_ok TabPOk.nil
theorem ib1_ctx : Ctx PR (envOf eqsT ib1T) [] (fun _ => none) 40 192 :=
  ctx_of (envOf_ok eqsT_ok ib1T_ok) mixed (fn := Try.f192) (by kernel_rfl) (by kernel_rfl) (by kernel_rfl) (tabOk_none _)
theorem ib1_ok : CallOk PR 192 (fn2 kStr (kInt .u8) (kInt .i64) idxByte) :=
  .inl ⟨enters_of (fn := Try.f192) (by kernel_rfl) (by kernel_rfl) (by kernel_rfl), pure2 ib1_ctx (fun s b => leafVal (B := kInt .i64) (y := idxByte s b) (ib1_run idxByte s b))⟩
def ib2T : PureTab := [(192, fn2 kStr (kInt .u8) (kInt .i64) idxByte)]
theorem ib2T_ok : TabPOk PR ib2T := TabPOk.cons ib1_ok TabPOk.nil
theorem ib2_ctx : Ctx PR (envOf eqsT ib2T) [] (fun _ => none) 40 178 :=
  ctx_of (envOf_ok eqsT_ok ib2T_ok) mixed (fn := Try.f178) (by kernel_rfl) (by kernel_rfl) (by kernel_rfl) (tabOk_none _)
theorem ib2_ok : CallOk PR 178 (fn2 kStr (kInt .u8) (kInt .i64) idxByte) :=
  .inl ⟨enters_of (fn := Try.f178) (by kernel_rfl) (by kernel_rfl) (by kernel_rfl), pure2 ib2_ctx (fun s b => leafVal (B := kInt .i64) (y := idxByte s b) (ib2_run idxByte s b))⟩
end Go.Rq

/- Numbers out of text: shift by four; the text's digits; a generator's number is gone through where it is told. -/
namespace Go.Rq
open Go Go.Proofs
def shift4 (a : W6) : W6 := ⟨a.w0 <<< 4, a.w1 <<< 4 ||| a.w0 >>> 60, a.w2 <<< 4 ||| a.w1 >>> 60, a.w3 <<< 4 ||| a.w2 >>> 60, a.w4 <<< 4 ||| a.w3 >>> 60, a.w5 <<< 4 ||| a.w4 >>> 60⟩
set_option maxRecDepth 100000 in
theorem shift4_run (a : W6) : (afunR PR (envOf eqsT []) [] (fun _ => none) 40 60 [c6.agg.enc a, (kInt .i64).enc 4]).strict = .leaf (c6.agg.enc (shift4 a)) := by kernel_rfl

/-- One number alone. -/
def kAt (k : IntKind) (n : Int) : Cod Unit where
  enc _ := .v (.int k n)
  dec a := match a with
    | .v (.int k' m) => match decide (k' = k ∧ m = n) with
      | true => some ()
      | false => none
    | _ => none
  val _ := .int k n
  h1 _ := rfl
  h2 ρ a v x h r := by
    split at h
    · rename_i k' m
      split at h
      · rename_i e
        obtain ⟨rfl, rfl⟩ := of_decide_eq_true e
        cases r
        rfl
      · cases h
    · cases h

theorem shift_ctx : Ctx PR (envOf eqsT []) [] (fun _ => none) 40 60 :=
  ctx_of (envOf_ok eqsT_ok TabPOk.nil) mixed (fn := Try.f60) (by kernel_rfl) (by kernel_rfl) (by kernel_rfl) (tabOk_none _)
theorem shift_ok : CallOk PR 60 (fn2 c6.agg (kAt .i64 4) c6.agg (fun a _ => shift4 a)) :=
  .inl ⟨enters_of (fn := Try.f60) (by kernel_rfl) (by kernel_rfl) (by kernel_rfl), pure2 (C := kAt .i64 4) shift_ctx (fun a _ => leafVal (B := c6.agg) (y := shift4 a) (shift4_run a))⟩

def parseT : PureTab := [(60, fn2 c6.agg (kAt .i64 4) c6.agg (fun a _ => shift4 a)), (178, fn2 kStr (kInt .u8) (kInt .i64) idxByte)]
theorem parseT_ok : TabPOk PR parseT := TabPOk.cons shift_ok (TabPOk.cons ib2_ok TabPOk.nil)
theorem parse_ctx : Ctx PR (envOf eqsT parseT) [] (fun _ => none) 110 140 :=
  ctx_of (envOf_ok eqsT_ok parseT_ok) mixed (fn := Try.f140) (by kernel_rfl) (by kernel_rfl) (by kernel_rfl) (tabOk_none _)
end Go.Rq
