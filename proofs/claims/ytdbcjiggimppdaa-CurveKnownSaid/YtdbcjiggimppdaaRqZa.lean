/- What the words' functions reckon, as numbers. -/
import Derived.Test.YtdbcjiggimppdaaRqS
import Derived.Test.YtdbcjiggimppdaaRqR
namespace Go.Rq
open Go

def b2n (b : Bool) : Nat := bif b then 1 else 0

theorem b2n_le (b : Bool) : b2n b ≤ 1 := by cases b <;> decide

theorem bitW_nat (b : Bool) : (bitW b).toNat = b2n b := bitW_toNat b

theorem add64_nat (x y : BitVec 64) (c : Bool) : (add64 x y c).1.toNat + 18446744073709551616 * b2n (add64 x y c).2 = x.toNat + y.toNat + b2n c := by
  have hx := x.isLt
  have hy := y.isLt
  have hc := b2n_le c
  have e : (add64 x y c).1.toNat = (x.toNat + y.toNat + b2n c) % 18446744073709551616 := by
    show (x + y + bitW c).toNat = _
    rw [BitVec.toNat_add, BitVec.toNat_add, bitW_nat]
    simp
  have e2 : b2n (add64 x y c).2 = if 18446744073709551616 ≤ x.toNat + y.toNat + b2n c then 1 else 0 := by
    show b2n (decide (18446744073709551616 ≤ x.toNat + y.toNat + b2n c)) = _
    by_cases h : 18446744073709551616 ≤ x.toNat + y.toNat + b2n c
    · rw [if_pos h, decide_eq_true h]; rfl
    · rw [if_neg h, decide_eq_false h]; rfl
  rw [e, e2]
  split <;> omega

theorem sub64_nat (x y : BitVec 64) (c : Bool) : (sub64 x y c).1.toNat + y.toNat + b2n c = x.toNat + 18446744073709551616 * b2n (sub64 x y c).2 := by
  have hx := x.isLt
  have hy := y.isLt
  have hc := b2n_le c
  have e : (sub64 x y c).1.toNat = (18446744073709551616 - b2n c + (18446744073709551616 - y.toNat + x.toNat) % 18446744073709551616) % 18446744073709551616 := by
    show (x - y - bitW c).toNat = _
    rw [BitVec.toNat_sub, BitVec.toNat_sub, bitW_nat]
  have e2 : b2n (sub64 x y c).2 = if x.toNat < y.toNat + b2n c then 1 else 0 := by
    show b2n (decide (x.toNat < y.toNat + b2n c)) = _
    by_cases h : x.toNat < y.toNat + b2n c
    · rw [if_pos h, decide_eq_true h]; rfl
    · rw [if_neg h, decide_eq_false h]; rfl
  rw [e, e2]
  split <;> omega

theorem mul64_nat (x y : BitVec 64) : (mul64 x y).2.toNat + 18446744073709551616 * (mul64 x y).1.toNat = x.toNat * y.toNat := by
  have hx := x.isLt
  have hy := y.isLt
  have e1 : (mul64 x y).2.toNat = x.toNat * y.toNat % 18446744073709551616 := BitVec.toNat_mul x y
  have h : x.toNat * y.toNat < 18446744073709551616 * 18446744073709551616 := Nat.mul_lt_mul'' hx hy
  have e2 : (mul64 x y).1.toNat = x.toNat * y.toNat / 18446744073709551616 := by
    show (BitVec.ofNat 64 (x.toNat * y.toNat / 2 ^ 64)).toNat = _
    rw [BitVec.toNat_ofNat]
    exact Nat.mod_eq_of_lt (Nat.div_lt_of_lt_mul h)
  rw [e1, e2]
  omega

theorem mul_bound (x y : BitVec 64) : x.toNat * y.toNat ≤ 18446744073709551615 * 18446744073709551615 :=
  Nat.mul_le_mul (by have := x.isLt; omega) (by have := y.isLt; omega)

theorem mac_nat (x a t c : BitVec 64) : (mac x a t c).1.toNat + 18446744073709551616 * (mac x a t c).2.toNat = x.toNat * a.toNat + t.toNat + c.toNat := by
  have h1 := mul64_nat x a
  have h2 := add64_nat (mul64 x a).2 t false
  have h3 := add64_nat (add64 (mul64 x a).2 t false).1 c false
  have hb := mul_bound x a
  have ht := t.isLt
  have hc := c.isLt
  have hr := (add64 (add64 (mul64 x a).2 t false).1 c false).1.isLt
  have b1 := b2n_le (add64 (mul64 x a).2 t false).2
  have b2 := b2n_le (add64 (add64 (mul64 x a).2 t false).1 c false).2
  have e : (mac x a t c).2.toNat = ((mul64 x a).1.toNat + b2n (add64 (mul64 x a).2 t false).2 + b2n (add64 (add64 (mul64 x a).2 t false).1 c false).2) % 18446744073709551616 := by
    show ((mul64 x a).1 + bitW (add64 (mul64 x a).2 t false).2 + bitW (add64 (add64 (mul64 x a).2 t false).1 c false).2).toNat = _
    rw [BitVec.toNat_add, BitVec.toNat_add, bitW_nat, bitW_nat]
    simp
  have e1 : (mac x a t c).1 = (add64 (add64 (mul64 x a).2 t false).1 c false).1 := rfl
  have z : b2n false = 0 := rfl
  rw [z] at h2 h3
  rw [e, e1]
  omega

def W6.val (a : W6) : Nat := a.w0.toNat + 18446744073709551616 * a.w1.toNat + 340282366920938463463374607431768211456 * a.w2.toNat + 6277101735386680763835789423207666416102355444464034512896 * a.w3.toNat +
  115792089237316195423570985008687907853269984665640564039457584007913129639936 * a.w4.toNat + 2135987035920910082395021706169552114602704522356652769947041607822219725780640550022962086936576 * a.w5.toNat

theorem W6.val_lt (a : W6) : a.val < 39402006196394479212279040100143613805079739270465446667948293404245721771497210611414266254884915640806627990306816 := by
  have h0 := a.w0.isLt
  have h1 := a.w1.isLt
  have h2 := a.w2.isLt
  have h3 := a.w3.isLt
  have h4 := a.w4.isLt
  have h5 := a.w5.isLt
  unfold W6.val
  omega

theorem adds_nat (a b : W6) : (adds a b).1.val + 39402006196394479212279040100143613805079739270465446667948293404245721771497210611414266254884915640806627990306816 * b2n (adds a b).2 = a.val + b.val := by
  have h0 := add64_nat a.w0 b.w0 false
  have h1 := add64_nat a.w1 b.w1 (add64 a.w0 b.w0 false).2
  have h2 := add64_nat a.w2 b.w2 (add64 a.w1 b.w1 (add64 a.w0 b.w0 false).2).2
  have h3 := add64_nat a.w3 b.w3 (add64 a.w2 b.w2 (add64 a.w1 b.w1 (add64 a.w0 b.w0 false).2).2).2
  have h4 := add64_nat a.w4 b.w4 (add64 a.w3 b.w3 (add64 a.w2 b.w2 (add64 a.w1 b.w1 (add64 a.w0 b.w0 false).2).2).2).2
  have h5 := add64_nat a.w5 b.w5 (add64 a.w4 b.w4 (add64 a.w3 b.w3 (add64 a.w2 b.w2 (add64 a.w1 b.w1 (add64 a.w0 b.w0 false).2).2).2).2).2
  have z : b2n false = 0 := rfl
  rw [z] at h0
  simp only [adds, W6.val]
  omega

theorem subs_nat (a b : W6) : (subs a b).1.val + b.val = a.val + 39402006196394479212279040100143613805079739270465446667948293404245721771497210611414266254884915640806627990306816 * b2n (subs a b).2 := by
  have h0 := sub64_nat a.w0 b.w0 false
  have h1 := sub64_nat a.w1 b.w1 (sub64 a.w0 b.w0 false).2
  have h2 := sub64_nat a.w2 b.w2 (sub64 a.w1 b.w1 (sub64 a.w0 b.w0 false).2).2
  have h3 := sub64_nat a.w3 b.w3 (sub64 a.w2 b.w2 (sub64 a.w1 b.w1 (sub64 a.w0 b.w0 false).2).2).2
  have h4 := sub64_nat a.w4 b.w4 (sub64 a.w3 b.w3 (sub64 a.w2 b.w2 (sub64 a.w1 b.w1 (sub64 a.w0 b.w0 false).2).2).2).2
  have h5 := sub64_nat a.w5 b.w5 (sub64 a.w4 b.w4 (sub64 a.w3 b.w3 (sub64 a.w2 b.w2 (sub64 a.w1 b.w1 (sub64 a.w0 b.w0 false).2).2).2).2).2
  have z : b2n false = 0 := rfl
  rw [z] at h0
  simp only [subs, W6.val]
  omega

theorem prime_val : primeW.val = pN := by decide +kernel

theorem lessW_nat (a : W6) (h : a.val < 2 * pN) : (lessW a).val = if a.val < pN then a.val else a.val - pN := by
  have h1 := subs_nat a primeW
  rw [prime_val] at h1
  have hl := (subs a primeW).1.val_lt
  unfold lessW
  have hp : pN = 4002409555221667393417789825735904156556882819939007885332058136124031650490837864442687629129015664037894272559787 := rfl
  rw [hp] at h h1 ⊢
  cases hb : (subs a primeW).2 with
  | true =>
    rw [hb] at h1
    have : b2n true = 1 := rfl
    rw [this] at h1
    simp only [cond_true]
    rw [if_pos (by omega)]
  | false =>
    rw [hb] at h1
    have : b2n false = 0 := rfl
    rw [this] at h1
    simp only [cond_false]
    rw [if_neg (by omega)]
    omega

end Go.Rq
